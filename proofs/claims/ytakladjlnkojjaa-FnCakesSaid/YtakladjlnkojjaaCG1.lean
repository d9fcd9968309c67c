/-
  Contracts: a cursor's next byte (the reference's draws). No condition.
-/
import Derived.Test.YtakladjlnkojjaaCK4
import Derived.Test.YtakladjlnkojjaaCB2
import Derived.Deep.QuietTactic
import Derived.BigQuiet
namespace Go.Proofs.Ytakladjlnkojjaa.Ax
open Go Go.RowKit
set_option linter.unusedSimpArgs false

def bAV (n : Int) : AV := .v (.int .u8 n)
def byts (nl : Bool) (l : List Int) : AV := .sl nl 1 (l.map bAV)

/-- The next state; the byte that it gives by itself; the byte with the code's own; the cursor behind it. -/
def stB (h : Int) : Int := wrap64 (wrap64 (h * 6364136223846793005) + 1442695040888963407)
def byB (h : Int) : Int := bits .and .i64 (bits .xor .i64 (stB h / 8589934592) (stB h / 35184372088832)) 255
def crX (by' : List Int) (s : Int × Int) : Int := if s.1 < (by'.length : Int) then bits .and .i64 (wrap64 (byB s.2 + wrap64 (by'.getD s.1.toNat 0))) 255 else byB s.2
def crS (by' : List Int) (s : Int × Int) : Int × Int := if s.1 < (by'.length : Int) then (wrap64 (s.1 + 1), stB s.2) else (s.1, stB s.2)
theorem and255 (x : Int) : 0 ≤ bits .and .i64 x 255 ∧ bits .and .i64 x 255 ≤ 255 := by
  have h : (BitVec.ofInt IntKind.i64.bits x &&& BitVec.ofInt IntKind.i64.bits 255).toNat ≤ 255 := by
    rw [BitVec.toNat_and]
    exact Nat.le_trans Nat.and_le_right (by decide)
  have e : bits .and .i64 x 255 = IntKind.i64.wrap ((BitVec.ofInt IntKind.i64.bits x &&& BitVec.ofInt IntKind.i64.bits 255).toNat : Int) := rfl
  rw [e, wrapI (by omega) (by omega)]
  omega
theorem crX_bd {by' : List Int} {s : Int × Int} : 0 ≤ crX by' s ∧ crX by' s ≤ 255 := by
  unfold crX byB; split <;> exact and255 _

/-- A cursor that can be: it stands within its code. -/
structure CrOk (by' : List Int) (s : Int × Int) : Prop where
  few : by'.length ≤ 1048576
  i0 : 0 ≤ s.1
  il : s.1 ≤ (by'.length : Int)
theorem CrOk.next {by' : List Int} {s : Int × Int} (h : CrOk by' s) : CrOk by' (crS by' s) := by
  have h1 := h.few; have h2 := h.i0; have h3 := h.il
  unfold crS
  split
  · have e : wrap64 (s.1 + 1) = s.1 + 1 := by unfold wrap64; omega
    exact ⟨h1, by simp only [e]; omega, by simp only [e]; omega⟩
  · exact ⟨h1, h2, h3⟩

theorem cur_heap {code : Value} {T : TypeId} {b : Nat} {w : World} {i h u v : Int} {n : Nat} (hb : w.heap[b]? = some (curC code T (i, h))) :
    ((((w.setCell ⟨b, 2, none⟩ (.int .i64 u)).drewN n).setCell ⟨b, 1, none⟩ (.int .i64 v)).heap[b]? = some (curC code T (v, u)) ∧ Frm (fun x => x = b) w (((w.setCell ⟨b, 2, none⟩ (.int .i64 u)).drewN n).setCell ⟨b, 1, none⟩ (.int .i64 v))) ∧
    (((w.setCell ⟨b, 2, none⟩ (.int .i64 u)).drewN n).heap[b]? = some (curC code T (i, u)) ∧ Frm (fun x => x = b) w ((w.setCell ⟨b, 2, none⟩ (.int .i64 u)).drewN n)) := by
  refine ⟨⟨?_, rfl, rfl, rfl, ?_, fun k _ hk => ?_⟩, ?_, rfl, rfl, rfl, ?_, fun k _ hk => ?_⟩
  · simp [World.setCell, World.drewN, Array.getElem?_modify, hb, curC]
  · simp [World.setCell, World.drewN]
  · have : ¬ b = k := fun e => hk e.symm
    simp [World.setCell, World.drewN, Array.getElem?_modify, this]
  · simp [World.setCell, World.drewN, Array.getElem?_modify, hb, curC]
  · simp [World.setCell, World.drewN]
  · have : ¬ b = k := fun e => hk e.symm
    simp [World.setCell, World.drewN, Array.getElem?_modify, this]

theorem cur_heap2 {code : Value} {T : TypeId} {b : Nat} {w : World} {i h u : Int} {m n : Nat} (hb : w.heap[b]? = some (curC code T (i, h))) :
    (((w.setCell ⟨b, 2, none⟩ (.int .i64 u)).drewN m).drewN n).heap[b]? = some (curC code T (i, u)) ∧ Frm (fun x => x = b) w (((w.setCell ⟨b, 2, none⟩ (.int .i64 u)).drewN m).drewN n) := by
  refine ⟨?_, rfl, rfl, rfl, ?_, fun k _ hk => ?_⟩
  · simp [World.setCell, World.drewN, Array.getElem?_modify, hb, curC]
  · simp [World.setCell, World.drewN]
  · have : ¬ b = k := fun e => hk e.symm
    simp [World.setCell, World.drewN, Array.getElem?_modify, this]

section
variable (b : Nat) (w : World) (ad : Option Addr) (len cap : Nat)
theorem l01Byte_in (i : Nat) (h : Int) (hb : w.heap[b]? = some (curC (.slice ad len cap) 87 (i, h))) (v : Int) (cb co : Nat) (had : ad = some ⟨cb, co, none⟩) (hne : cb ≠ b) (hcv : w.cell? ⟨cb, co + i, none⟩ = some (.int .u8 v)) (hlt : i < len) :
    Calls Try.prog 50 #[ptrV b] w fun e w' => e = .returned (.int .i64 (bits .and .i64 (wrap64 (byB h + wrap64 v)) 255)) ∧ Frm (fun x => x = b) w w' ∧ w'.heap[b]? = some (curC (.slice ad len cap) 87 (wrap64 (i + 1), stB h)) := by
  have hc0 : w.cell? ⟨b, 0, none⟩ = some (.slice ad len cap) := by simp [World.cell?, hb, curC]
  have hc1 : w.cell? ⟨b, 1, none⟩ = some (.int .i64 i) := by simp [World.cell?, hb, curC]
  have hc2 : w.cell? ⟨b, 2, none⟩ = some (.int .i64 h) := by simp [World.cell?, hb, curC]
  have hf1 : w.frozen? ⟨b, 1, none⟩ = false := by simp [World.frozen?, hb, curC]
  have hf2 : w.frozen? ⟨b, 2, none⟩ = false := by simp [World.frozen?, hb, curC]
  unfold ptrV byB stB
  subst had
  have hlt' : (i : Int) < (len : Int) := by omega
  go_enter Try.func50, Try.ntmps50
  go_wp2
  go_quiet (fail)
  go_wp2
  go_quiet (fail)
  go_wp2
  go_quiet (fail)
  go_wp2
  go_ret
  exact ⟨rfl, (cur_heap hb).1.2, (cur_heap hb).1.1⟩
theorem l01Byte_out (i h : Int) (hb : w.heap[b]? = some (curC (.slice ad len cap) 87 (i, h))) (hlt : ¬ i < (len : Int)) :
    Calls Try.prog 50 #[ptrV b] w fun e w' => e = .returned (.int .i64 (byB h)) ∧ Frm (fun x => x = b) w w' ∧ w'.heap[b]? = some (curC (.slice ad len cap) 87 (i, stB h)) := by
  have hc0 : w.cell? ⟨b, 0, none⟩ = some (.slice ad len cap) := by simp [World.cell?, hb, curC]
  have hc1 : w.cell? ⟨b, 1, none⟩ = some (.int .i64 i) := by simp [World.cell?, hb, curC]
  have hc2 : w.cell? ⟨b, 2, none⟩ = some (.int .i64 h) := by simp [World.cell?, hb, curC]
  have hf1 : w.frozen? ⟨b, 1, none⟩ = false := by simp [World.frozen?, hb, curC]
  have hf2 : w.frozen? ⟨b, 2, none⟩ = false := by simp [World.frozen?, hb, curC]
  unfold ptrV byB stB
  go_enter Try.func50, Try.ntmps50
  go_wp2
  go_quiet (fail)
  go_wp2
  go_quiet (fail)
  go_wp2
  all_goals (go_ret; exact ⟨rfl, (cur_heap2 hb).2, (cur_heap2 hb).1⟩)
end

theorem l01Byte_cur {nl : Bool} {by' : List Int} {s : Int × Int} (hs : CrOk by' s) : CurOk Try.prog 50 (byts nl by') 87 [] s (crS by' s) (.v (.int .i64 (crX by' s))) := by
  refine ⟨⟨_, Try.func50, by kernel_rfl, by kernel_rfl⟩, fun code b w F vals hbytes hb hF hbF hvals => ?_⟩
  simp only [RepL] at hvals
  subst hvals
  obtain ⟨i, h⟩ := s
  have h0 := hs.i0
  simp only at h0
  simp only [byts, Rep, List.length_map] at hbytes
  obtain ⟨ad, len, cap, rfl, hlen, _, _, hrow⟩ := hbytes
  subst hlen
  by_cases hi : i < (by'.length : Int)
  · have hin : i.toNat < by'.length := by omega
    rcases hrow with ⟨_, _, hz, _⟩ | ⟨cb, co, rfl, _, hrow⟩ | ⟨_, _, hz⟩
    · omega
    · obtain ⟨z, h1, _, _, hFb, h4⟩ := RepRow.get hrow i.toNat (bAV by'[i.toNat]) (by rw [List.getElem?_map, List.getElem?_eq_getElem hin]; rfl)
      simp only [Rep, bAV] at h1
      obtain ⟨rfl, _⟩ := h1
      have hcv : w.cell? ⟨cb, co + i.toNat, none⟩ = some (.int .u8 (by'.getD i.toNat 0)) := by
        rw [List.getD_eq_getElem?_getD, List.getElem?_eq_getElem hin]
        simpa using h4 0 (.int .u8 by'[i.toNat]) (by simp [Value.cells])
      obtain ⟨i, rfl⟩ := Int.eq_ofNat_of_zero_le h0
      rw [Int.toNat_natCast] at hin hcv
      refine (l01Byte_in b w _ by'.length cap i h hb _ cb co rfl (fun e => hbF (e ▸ hFb)) hcv hin).mono fun e w' he => ?_
      obtain ⟨rfl, hfr, hw⟩ := he
      refine ⟨_, fun _ => False, rfl, hfr, ?_, fun _ h => h.elim, ?_⟩
      · rw [hw]; simp only [crS, if_pos hi]
      · simp only [Own, crX, if_pos hi, Int.toNat_natCast, Value.oneCell', and_self]
    · simp only [List.map_eq_nil_iff] at hz
      subst hz; simp at hin
  · refine (l01Byte_out b w ad by'.length cap i h hb hi).mono fun e w' he => ?_
    obtain ⟨rfl, hfr, hw⟩ := he
    refine ⟨_, fun _ => False, rfl, hfr, ?_, fun _ h => h.elim, ?_⟩
    · rw [hw]; simp only [crS, if_neg hi]
    · simp only [Own, crX, if_neg hi, Value.oneCell', and_self]

end Go.Proofs.Ytakladjlnkojjaa.Ax

/-
  Contracts: a number below a bound by a cursor; rows of such numbers (the reference's draws). No condition.
-/
namespace Go.Proofs.Ytakladjlnkojjaa.Ax
open Go Go.RowKit
set_option linter.unusedSimpArgs false

/-- The number below n that the next byte gives. -/
def bw (by' : List Int) (s : Int × Int) (n : Nat) : Int := (crX by' s).tmod (n : Int)
theorem bw_bd {by' : List Int} {s : Int × Int} {n : Nat} (h : 0 < n) : 0 ≤ bw by' s n ∧ bw by' s n < n := by
  have := crX_bd (by' := by') (s := s)
  unfold bw
  rw [Int.tmod_eq_emod_of_nonneg this.1]
  exact ⟨Int.emod_nonneg _ (by omega), Int.emod_lt_of_pos _ (by omega)⟩

theorem l01Below_cur {nl : Bool} {by' : List Int} {s : Int × Int} (hs : CrOk by' s) {n : Nat} (h0 : 0 < n) (hn : n ≤ 256) : CurOk Try.prog 81 (byts nl by') 87 [int n] s (crS by' s) (.v (.int .i64 (bw by' s n))) := by
  have hcur := l01Byte_cur (nl := nl) hs
  have hx := crX_bd (by' := by') (s := s)
  have hG : FnsOk Try.prog [] := .nil
  refine curOk_of_ty (dt := []) (ctx_ok eqOk hG) Try.func81 rfl (by kernel_rfl) (by kernel_rfl) fun w F0 code b hbytes hF0 hbF => ?_
  refine ty_seq (ty_awp (ctx_ok eqOk hG) mixed curJ_stable (live := [true, true, false, false, true, true, true, true, true, false, true, false, true]) fun X A w1 => ?_)
  simp [Try.f81, List.range, List.range.loop, ints, intss, int, bool, row, frac, fracs, ← List.map_take, ← List.map_drop, thenY_normal]
  refine ty_seq (ty_awp (ctx_ok eqOk hG) mixed curJ_stable (live := [true, true, false, false, true, true, true, true, true, false, true, false, true]) fun X A w1 => ?_)
  have hn0 : ¬ (n : Int) ≤ 0 := by omega
  have hn1 : ¬ n = 0 := by omega
  simp [List.range, List.range.loop, ints, intss, int, bool, row, frac, fracs, ← List.map_take, ← List.map_drop, thenY_normal, hn0, hn1]
  refine ty_seq (ty_seq (ty_awp (ctx_ok eqOk hG) mixed curJ_stable (live := [true, true, false, false, true, true, true, true, true, false, true, false, true]) fun X A w1 => ?_))
  have hn2 : (n : Int) ≤ 256 := by omega
  simp [List.range, List.range.loop, ints, intss, int, bool, row, frac, fracs, ← List.map_take, ← List.map_drop, thenY_normal, hn, hn2]
  refine ty_cond (t := true) (by rfl) (fun _ => ?_) (fun h => by cases h)
  refine ty_seq (ty_reg (tyo_ops 1 (ctx_ok eqOk hG) curJ_stable (by simp) ?_))
  simp [List.range, List.range.loop, ints, intss, int, bool, row, frac, fracs, ← List.map_take, ← List.map_drop]
  refine tyo_cur hbytes hF0 hbF hcur rfl rfl rfl (by rfl) (by rfl) (by rfl) ?_
  simp [List.range, List.range.loop, ints, intss, int, bool, row, frac, fracs, ← List.map_take, ← List.map_drop]
  refine tyo_ops 3 (ctx_ok eqOk hG) curJ_stable (by simp) ?_
  simp [List.range, List.range.loop, ints, intss, int, bool, row, frac, fracs, ← List.map_take, ← List.map_drop, hn1]
  refine tyo_end (by simp) ?_
  simp only [thenY_normal]
  refine ty_awp (ctx_ok eqOk hG) mixed curJ_stable (live := [true, true, false, false, true, true, true, true, true, false, true, false, true]) fun X A w1 => ?_
  simp [List.range, List.range.loop, ints, intss, int, bool, row, frac, fracs, ← List.map_take, ← List.map_drop, thenY_ret, bw]

/-- The cursor behind k bytes. -/
def crN (by' : List Int) (s : Int × Int) : Nat → Int × Int
  | 0 => s
  | k + 1 => crS by' (crN by' s k)
theorem crN_ok {by' : List Int} {s : Int × Int} (h : CrOk by' s) : ∀ k, CrOk by' (crN by' s k)
  | 0 => h
  | k + 1 => (crN_ok h k).next
/-- The number below m that byte k gives. -/
def bk (by' : List Int) (s : Int × Int) (m k : Nat) : Int := bw by' (crN by' s k) m
theorem bk_bd {by' : List Int} {s : Int × Int} {m k : Nat} (h : 0 < m) : 0 ≤ bk by' s m k ∧ bk by' s m k < m := bw_bd h
/-- A row of g such numbers, from byte k on. -/
def drR (by' : List Int) (s : Int × Int) (m k g : Nat) : List Int := (List.range g).map fun j => bk by' s m (k + j)
theorem drR_succ {by' : List Int} {s : Int × Int} {m k g : Nat} : drR by' s m k (g + 1) = drR by' s m k g ++ [bk by' s m (k + g)] := by unfold drR; rw [List.range_succ, List.map_append]; rfl
theorem drR_len {by' : List Int} {s : Int × Int} {m k g : Nat} : (drR by' s m k g).length = g := by simp [drR]
/-- n rows. -/
def drT (by' : List Int) (s : Int × Int) (m g n : Nat) : List (Bool × List Int) := (List.range n).map fun i => (false, drR by' s m (2 + i * g) g)
theorem drT_succ {by' : List Int} {s : Int × Int} {m g n : Nat} : drT by' s m g (n + 1) = drT by' s m g n ++ [(false, drR by' s m (2 + n * g) g)] := by unfold drT; rw [List.range_succ, List.map_append]; rfl
theorem drT_len {by' : List Int} {s : Int × Int} {m g n : Nat} : (drT by' s m g n).length = n := by simp [drT]
/-- How many rows, how wide. -/
def drN (by' : List Int) (s : Int × Int) (a : Nat) : Nat := (1 + bk by' s a 0).toNat
def drG (by' : List Int) (s : Int × Int) (b : Nat) : Nat := (1 + bk by' s b 1).toNat
theorem drN_bd {by' : List Int} {s : Int × Int} {a : Nat} (h : 0 < a) : 1 ≤ drN by' s a ∧ drN by' s a ≤ a ∧ 1 + bk by' s a 0 = (drN by' s a : Int) := by
  have := bk_bd (by' := by') (s := s) (k := 0) h
  unfold drN; omega
theorem drG_bd {by' : List Int} {s : Int × Int} {b : Nat} (h : 0 < b) : 1 ≤ drG by' s b ∧ drG by' s b ≤ b ∧ 1 + bk by' s b 1 = (drG by' s b : Int) := by
  have := bk_bd (by' := by') (s := s) (k := 1) h
  unfold drG; omega
def drA (by' : List Int) (s : Int × Int) (a b m : Nat) : List (Bool × List Int) := drT by' s m (drG by' s b) (drN by' s a)

end Go.Proofs.Ytakladjlnkojjaa.Ax

/-
  Contract: the reference's draw of bids. No condition.
-/
namespace Go.Proofs.Ytakladjlnkojjaa.Ax
open Go Go.RowKit
set_option linter.unusedSimpArgs false

set_option maxRecDepth 8000 in
set_option maxHeartbeats 2000000 in
theorem l27Draw_cur {nl : Bool} {by' : List Int} {s : Int × Int} (hs : CrOk by' s) : CurOk Try.prog 39 (byts nl by') 87 [int 3] s (crN by' s (2 + drN by' s 3 * drG by' s 3)) (.sl false 1 ((drA by' s 3 3 15).map row)) := by
  have hcur := fun (m k : Nat) (h0 : 0 < m) (hm : m ≤ 256) => l01Below_cur (nl := nl) (crN_ok hs k) h0 hm
  obtain ⟨n1, n2, n3⟩ := drN_bd (by' := by') (s := s) (a := 3) (by omega)
  obtain ⟨g1, g2, g3⟩ := drG_bd (by' := by') (s := s) (b := 3) (by omega)
  have hA : drA by' s 3 3 15 = drT by' s 15 (drG by' s 3) (drN by' s 3) := rfl
  rw [hA]
  generalize drN by' s 3 = n at *
  generalize drG by' s 3 = g at *
  have hG : FnsOk Try.prog [] := .nil
  refine curOk_of_ty (dt := []) (ctx_ok eqOk hG) Try.func39 rfl (by kernel_rfl) (by kernel_rfl) fun w F0 code b hbytes hF0 hbF => ?_
  refine ty_seq (ty_awp (ctx_ok eqOk hG) mixed curJ_stable (live := [true, true, false, false, true, true, true, true, true, true, true, false, false, false, false, false, false, false, false, false, false, false, true, false, false, false, false, false, true]) fun X A w1 => ?_)
  simp [Try.f39, List.range, List.range.loop, ints, intss, int, bool, row, frac, fracs, ← List.map_take, ← List.map_drop, thenY_normal]
  refine ty_seq (ty_reg (tyo_ops 2 (ctx_ok eqOk hG) curJ_stable (by simp) ?_))
  simp [List.range, List.range.loop, ints, intss, int, bool, row, frac, fracs, ← List.map_take, ← List.map_drop]
  refine tyo_cur hbytes hF0 hbF (hcur 3 0 (by omega) (by omega)) rfl rfl rfl (by rfl) (by rfl) (by rfl) ?_
  simp [List.range, List.range.loop, ints, intss, int, bool, row, frac, fracs, ← List.map_take, ← List.map_drop]
  refine tyo_ops 2 (ctx_ok eqOk hG) curJ_stable (by simp) ?_
  have n3' : IntKind.i64.wrap (1 + bk by' s 3 0) = (n : Int) := by rw [n3]; exact wrapI (by omega) (by omega)
  have e0 : bw by' (crN by' s 0) 3 = bk by' s 3 0 := rfl
  simp [List.range, List.range.loop, ints, intss, int, bool, row, frac, fracs, ← List.map_take, ← List.map_drop, e0, n3']
  refine tyo_end (by simp) ?_
  simp only [thenY_normal]
  refine ty_seq (ty_reg (tyo_ops 2 (ctx_ok eqOk hG) curJ_stable (by simp) ?_))
  simp [List.range, List.range.loop, ints, intss, int, bool, row, frac, fracs, ← List.map_take, ← List.map_drop]
  refine tyo_cur hbytes hF0 hbF (hcur 3 1 (by omega) (by omega)) rfl rfl rfl (by rfl) (by rfl) (by rfl) ?_
  simp [List.range, List.range.loop, ints, intss, int, bool, row, frac, fracs, ← List.map_take, ← List.map_drop]
  refine tyo_ops 2 (ctx_ok eqOk hG) curJ_stable (by simp) ?_
  have g3' : IntKind.i64.wrap (1 + bk by' s 3 1) = (g : Int) := by rw [g3]; exact wrapI (by omega) (by omega)
  have e1 : bw by' (crN by' s 1) 3 = bk by' s 3 1 := rfl
  simp [List.range, List.range.loop, ints, intss, int, bool, row, frac, fracs, ← List.map_take, ← List.map_drop, e1, g3']
  refine tyo_end (by simp) ?_
  simp only [thenY_normal]
  refine ty_seq (ty_awp (ctx_ok eqOk hG) mixed curJ_stable (live := [true, true, false, false, true, true, true, true, true, true, true, false, false, false, false, false, false, false, false, false, false, false, true, false, false, false, false, false, true]) fun X A w1 => ?_)
  simp [List.range, List.range.loop, ints, intss, int, bool, row, frac, fracs, ← List.map_take, ← List.map_drop, thenY_normal]
  refine ty_seq (ty_seq (ty_awp (ctx_ok eqOk hG) mixed curJ_stable (live := [true, true, false, false, true, true, true, true, true, true, true, false, false, false, false, false, false, false, false, false, false, false, true, false, false, false, false, false, true]) fun X A w1 => ?_))
  simp [List.range, List.range.loop, ints, intss, int, bool, row, frac, fracs, ← List.map_take, ← List.map_drop, thenY_normal]
  refine ty_block (ty_loop (α := {i : Nat // i ≤ n}) (fun i => ⟨[.v (ptrV b), .junk, .junk, .junk, .junk, int n, int g, .ref 0 [] 0 i.1, int i.1, .junk, .junk, .junk, .junk, .junk, .junk, .junk, .junk, .junk, .junk, .junk, .junk, .junk, .junk, .junk, .junk, .junk, .junk, .junk, .junk, .junk, .junk, .junk, .junk, .junk, .junk, .junk, .junk, .junk, .junk, .junk, .junk], [⟨true, .sl false 1 ((drT by' s 15 g i.1).map row)⟩]⟩) (fun i => crN by' s (2 + i.1 * g)) (fun i => n - i.1) ⟨0, Nat.zero_le _⟩ ⟨?_, ?_⟩ ?_)
  · simp [sub, slotsLe, clean, keep, refsL, refs, once, place, renL, ren, List.replicate, int, bool, drT]
  · simp [crN]
  rintro ⟨i, hi⟩
  by_cases hin : i < n
  rotate_left
  · obtain rfl : i = n := by omega
    have hl := drT_len (by' := by') (s := s) (m := 15) (g := g) (n := i)
    refine ty_seq (ty_awp (ctx_ok eqOk hG) mixed curJ_stable (live := [true, true, false, false, true, true, true, true, true, true, true, false, false, false, false, false, false, false, false, false, false, false, true, false, false, false, false, false, true]) fun X A w1 => ?_)
    simp [List.range, List.range.loop, ints, intss, int, bool, row, frac, fracs, ← List.map_take, ← List.map_drop, thenY_normal, thenY_exit, inBY_exit]
    refine ty_awp (ctx_ok eqOk hG) mixed curJ_stable (live := [true, true, false, false, true, true, true, true, true, true, true, false, false, false, false, false, false, false, false, false, false, false, true, false, false, false, false, false, true]) fun X A w1 => ?_
    simp [List.range, List.range.loop, ints, intss, int, bool, row, frac, fracs, ← List.map_take, ← List.map_drop, thenY_ret, hl]
  refine ty_seq (ty_awp (ctx_ok eqOk hG) mixed curJ_stable (live := [true, true, false, false, true, true, true, true, true, true, true, false, false, false, false, false, false, false, false, false, false, false, true, false, false, false, false, false, true]) fun X A w1 => ?_)
  simp [List.range, List.range.loop, ints, intss, int, bool, row, frac, fracs, ← List.map_take, ← List.map_drop, thenY_normal, hin]
  refine ty_seq (ty_block (ty_seq (ty_awp (ctx_ok eqOk hG) mixed curJ_stable (live := [true, true, false, false, true, true, true, true, true, true, true, false, false, false, false, false, false, false, false, false, false, false, true, false, false, false, false, false, true]) fun X A w1 => ?_)))
  simp [List.range, List.range.loop, ints, intss, int, bool, row, frac, fracs, ← List.map_take, ← List.map_drop, thenY_normal]
  refine ty_seq (ty_seq (ty_awp (ctx_ok eqOk hG) mixed curJ_stable (live := [true, true, false, false, true, true, true, true, true, true, true, false, false, false, false, false, false, false, false, false, false, false, true, false, false, false, false, false, true]) fun X A w1 => ?_))
  simp [List.range, List.range.loop, ints, intss, int, bool, row, frac, fracs, ← List.map_take, ← List.map_drop, thenY_normal]
  refine ty_block (ty_loop (α := {k : Nat // k ≤ g}) (fun k => ⟨[.v (ptrV b), .junk, .junk, .junk, .junk, int n, int g, .ref 0 [] 0 i, int i, .ref 1 [] 0 k.1, int k.1, .junk, .junk, .junk, .junk, .junk, .junk, .junk, .junk, .junk, .junk, .junk, .junk, .junk, .junk, .junk, .junk, .junk, .junk, .junk, .junk, .junk, .junk, .junk, .junk, .junk, .junk, .junk, .junk, .junk, .junk], [⟨true, .sl false 1 ((drT by' s 15 g i).map row)⟩, ⟨true, .sl false 1 ((drR by' s 15 (2 + i * g) k.1).map int)⟩]⟩) (fun k => crN by' s (2 + i * g + k.1)) (fun k => g - k.1) ⟨0, Nat.zero_le _⟩ ⟨?_, ?_⟩ ?_)
  · simp [sub, slotsLe, clean, keep, refsL, refs, once, place, renL, ren, List.replicate, int, bool, drR]
  · simp
  rintro ⟨k, hk⟩
  by_cases hkg : k < g
  · refine ty_seq (ty_awp (ctx_ok eqOk hG) mixed curJ_stable (live := [true, true, false, false, true, true, true, true, true, true, true, false, false, false, false, false, false, false, false, false, false, false, true, false, false, false, false, false, true]) fun X A w1 => ?_)
    simp [List.range, List.range.loop, ints, intss, int, bool, row, frac, fracs, ← List.map_take, ← List.map_drop, thenY_normal, hkg]
    refine ty_seq (ty_block (ty_reg (tyo_ops 2 (ctx_ok eqOk hG) curJ_stable (by simp) ?_)))
    simp [List.range, List.range.loop, ints, intss, int, bool, row, frac, fracs, ← List.map_take, ← List.map_drop]
    refine tyo_cur hbytes hF0 hbF (hcur 15 (2 + i * g + k) (by omega) (by omega)) rfl rfl rfl (by rfl) (by rfl) (by rfl) ?_
    simp [List.range, List.range.loop, ints, intss, int, bool, row, frac, fracs, ← List.map_take, ← List.map_drop]
    have hrl := drR_len (by' := by') (s := s) (m := 15) (k := 2 + i * g) (g := k)
    have hbb : k + 1 ≤ 4611686018427387904 ∧ (k + 1) * 8 ≤ 140737488355328 := by omega
    have hrs : (drR by' s 15 (2 + i * g) k).map int ++ [.v (.int .i64 (bw by' (crN by' s (2 + i * g + k)) 15))] = (drR by' s 15 (2 + i * g) (k + 1)).map int := by rw [drR_succ, List.map_append]; rfl
    refine tyo_ops 3 (ctx_ok eqOk hG) curJ_stable (by simp) ?_
    simp [List.range, List.range.loop, ints, intss, int, bool, row, frac, fracs, ← List.map_take, ← List.map_drop, hrl, hbb, hrs]
    refine tyo_end (by simp) ?_
    simp only [thenY_normal, inBY_normal]
    refine ty_awp (ctx_ok eqOk hG) mixed curJ_stable (live := [true, true, false, false, true, true, true, true, true, true, true, false, false, false, false, false, false, false, false, false, false, false, true, false, false, false, false, false, true]) fun X A w1 => ?_
    have hwk : IntKind.i64.wrap ((k : Int) + 1) = (k : Int) + 1 := wrapI (by omega) (by omega)
    simp [List.range, List.range.loop, ints, intss, int, bool, row, frac, fracs, ← List.map_take, ← List.map_drop, thenY_normal, hwk]
    exact ⟨⟨k + 1, hkg⟩, by simp [sub, slotsLe, clean, keep, refsL, refs, once, place, renL, ren, List.replicate, int, bool], rfl, by simp; omega⟩
  · obtain rfl : k = g := by omega
    have hrl := drR_len (by' := by') (s := s) (m := 15) (k := 2 + i * k) (g := k)
    have htl := drT_len (by' := by') (s := s) (m := 15) (g := k) (n := i)
    have hbb : i + 1 ≤ 4611686018427387904 ∧ (i + 1) * 24 ≤ 140737488355328 := by omega
    have hrs : (drT by' s 15 k i).map row ++ [.sl false 1 ((drR by' s 15 (2 + i * k) k).map int)] = (drT by' s 15 k (i + 1)).map row := by rw [drT_succ, List.map_append]; rfl
    refine ty_seq (ty_awp (ctx_ok eqOk hG) mixed curJ_stable (live := [true, true, false, false, true, true, true, true, true, true, true, false, false, false, false, false, false, false, false, false, false, false, true, false, false, false, false, false, true]) fun X A w1 => ?_)
    simp [List.range, List.range.loop, ints, intss, int, bool, row, frac, fracs, ← List.map_take, ← List.map_drop, thenY_normal, thenY_exit, inBY_exit]
    refine ty_awp (ctx_ok eqOk hG) mixed curJ_stable (live := [true, true, false, false, true, true, true, true, true, true, true, false, false, false, false, false, false, false, false, false, false, false, true, false, false, false, false, false, true]) fun X A w1 => ?_
    simp [List.range, List.range.loop, ints, intss, int, bool, row, frac, fracs, ← List.map_take, ← List.map_drop, thenY_normal, inBY_normal, hrl, htl, hbb, hrs]
    refine ty_awp (ctx_ok eqOk hG) mixed curJ_stable (live := [true, true, false, false, true, true, true, true, true, true, true, false, false, false, false, false, false, false, false, false, false, false, true, false, false, false, false, false, true]) fun X A w1 => ?_
    have hwk : IntKind.i64.wrap ((i : Int) + 1) = (i : Int) + 1 := wrapI (by omega) (by omega)
    simp [List.range, List.range.loop, ints, intss, int, bool, row, frac, fracs, ← List.map_take, ← List.map_drop, thenY_normal, hwk]
    exact ⟨⟨i + 1, hin⟩, by simp [sub, slotsLe, clean, keep, refsL, refs, once, place, renL, ren, List.replicate, int, bool], by congr 1; rw [Nat.add_mul]; omega, by simp; omega⟩

end Go.Proofs.Ytakladjlnkojjaa.Ax

/-
  Contracts: new cursors (the reference's draws). No condition.
-/
namespace Go.Proofs.Ytakladjlnkojjaa.Ax
open Go Go.RowKit
set_option linter.unusedSimpArgs false

/-- The state that the first k bytes of a code give. -/
def hN (by' : List Int) : Nat → Int
  | 0 => IntKind.i64.wrap (2139 + by'.length)
  | k + 1 => bits .and .i64 (IntKind.i64.wrap (IntKind.i64.wrap (IntKind.i64.wrap (hN by' k * 149) + IntKind.i64.wrap (by'.getD k 0)) + 7)) 1073741823
/-- A new cursor. -/
def cr0 (by' : List Int) : Int × Int := (0, hN by' (min by'.length 4000))
theorem cr0_ok {by' : List Int} (h : by'.length ≤ 1048576) : CrOk by' (cr0 by') := ⟨h, Int.le_refl _, by unfold cr0; omega⟩

set_option maxRecDepth 8000 in
set_option maxHeartbeats 2000000 in
theorem l01New_new {nl : Bool} {by' : List Int} (hlen : by'.length ≤ 1048576) : NewOk Try.prog 82 (byts nl by') 87 [] (cr0 by') := by
  have hG : FnsOk Try.prog [] := .nil
  refine newOk_of_tye (dt := []) (d := 2) Try.func82 rfl (by kernel_rfl) (by kernel_rfl) rfl fun w F => ?_
  refine ty_seqE (ty_awp (ctx_ok eqOk hG) mixed noJ_stable (live := [true, false, true, true, true, false, false, false, false, false, false, false, false, false, false, true]) fun X A w1 => ?_)
  simp [Try.f82, List.range, List.range.loop, ints, intss, int, bool, row, frac, fracs, ← List.map_take, ← List.map_drop, thenY_normal, byts]
  refine ty_seqE (ty_awp (ctx_ok eqOk hG) mixed noJ_stable (live := [true, false, true, true, true, false, false, false, false, false, false, false, false, false, false, true]) fun X A w1 => ?_)
  simp [List.range, List.range.loop, ints, intss, int, bool, row, frac, fracs, ← List.map_take, ← List.map_drop, thenY_normal]
  have hr0 : IntKind.i64.wrap (2139 + (by'.length : Int)) = hN by' 0 := rfl
  rw [hr0]
  refine ty_seqE (ty_seq (ty_awp (ctx_ok eqOk hG) mixed noJ_stable (live := [true, false, true, true, true, false, false, false, false, false, false, false, false, false, false, true]) fun X A w1 => ?_))
  simp [List.range, List.range.loop, ints, intss, int, bool, row, frac, fracs, ← List.map_take, ← List.map_drop, thenY_normal]
  refine ty_block (ty_loop (α := {k : Nat // k ≤ min by'.length 4000}) (fun k => ⟨[.sl nl 1 (by'.map bAV), .junk, .junk, int (hN by' k.1), int k.1, .junk, .junk, .junk, .junk, .junk, .junk, .junk, .junk, .junk, .junk, .junk, .junk, .junk, .junk, .junk, .junk, .junk, .junk, .junk, .junk, .junk, .junk, .junk, .junk, .junk, .junk, .junk], []⟩) (fun _ => ()) (fun k => 4000 - k.1) ⟨0, Nat.zero_le _⟩ ⟨?_, rfl⟩ ?_)
  · simp [sub, slotsLe, clean, keep, refsL, refs, once, place, renL, ren, List.replicate, int, bool]
  rintro ⟨k, hk⟩
  by_cases hkl : k < by'.length
  · have hki : (k : Int) < (by'.length : Int) := by omega
    by_cases hk4 : k < 4000
    · have hk4i : (k : Int) < 4000 := by omega
      have hgd : by'.getD k 0 = by'[k] := by simp [List.getD_eq_getElem?_getD, hkl]
      refine ty_seq (ty_awp (ctx_ok eqOk hG) mixed noJ_stable (live := [true, false, true, true, true, false, false, false, false, false, false, false, false, false, false, true]) fun X A w1 => ?_)
      simp [List.range, List.range.loop, ints, intss, int, bool, row, frac, fracs, ← List.map_take, ← List.map_drop, thenY_normal, hkl, hki, hk4, hk4i]
      refine ty_seq (ty_block (ty_reg (tyo_ops 9 (ctx_ok eqOk hG) noJ_stable (by simp) ?_)))
      simp [List.range, List.range.loop, ints, intss, int, bool, row, frac, fracs, ← List.map_take, ← List.map_drop, hkl, bAV]
      refine tyo_bin (r := .int .i64 (hN by' (k + 1))) rfl rfl rfl (by rfl) (by rfl) (fun W => ?_) rfl ?_
      · rw [hN, hgd]
        simp [eqGuard, binOp, Op.intArith, Op.intCmp]
        rfl
      refine tyo_ops 1 (ctx_ok eqOk hG) noJ_stable (by simp) ?_
      simp [List.range, List.range.loop, ints, intss, int, bool, row, frac, fracs, ← List.map_take, ← List.map_drop]
      refine tyo_end (by simp) ?_
      simp only [thenY_normal, inBY_normal]
      refine ty_awp (ctx_ok eqOk hG) mixed noJ_stable (live := [true, false, true, true, true, false, false, false, false, false, false, false, false, false, false, true]) fun X A w1 => ?_
      have hwk : IntKind.i64.wrap ((k : Int) + 1) = (k : Int) + 1 := wrapI (by omega) (by omega)
      simp [List.range, List.range.loop, ints, intss, int, bool, row, frac, fracs, ← List.map_take, ← List.map_drop, thenY_normal, hwk]
      exact ⟨⟨k + 1, by omega⟩, by simp [sub, slotsLe, clean, keep, refsL, refs, once, place, renL, ren, List.replicate, int, bool], rfl, by simp; omega⟩
    · have hk4i : ¬ (k : Int) < 4000 := by omega
      have hkm : k = min by'.length 4000 := by omega
      refine ty_seq (ty_awp (ctx_ok eqOk hG) mixed noJ_stable (live := [true, false, true, true, true, false, false, false, false, false, false, false, false, false, false, true]) fun X A w1 => ?_)
      simp [List.range, List.range.loop, ints, intss, int, bool, row, frac, fracs, ← List.map_take, ← List.map_drop, thenY_normal, thenY_exit, inBY_exit, hkl, hki, hk4, hk4i]
      rw [show cr0 by' = (0, hN by' k) by unfold cr0; rw [← hkm]]
      refine tye_box (ctx_ok eqOk hG) (pre := [_, _, _]) rfl rfl rfl rfl (.inr rfl) rfl rfl ?_
      simp [List.range, List.range.loop, ints, intss, int, bool, row, frac, fracs, ← List.map_take, ← List.map_drop]
  · have hki : ¬ (k : Int) < (by'.length : Int) := by omega
    have hkm : k = min by'.length 4000 := by omega
    refine ty_seq (ty_awp (ctx_ok eqOk hG) mixed noJ_stable (live := [true, false, true, true, true, false, false, false, false, false, false, false, false, false, false, true]) fun X A w1 => ?_)
    simp [List.range, List.range.loop, ints, intss, int, bool, row, frac, fracs, ← List.map_take, ← List.map_drop, thenY_normal, thenY_exit, inBY_exit, hkl, hki]
    rw [show cr0 by' = (0, hN by' k) by unfold cr0; rw [← hkm]]
    refine tye_box (ctx_ok eqOk hG) (pre := [_, _, _]) rfl rfl rfl rfl (.inr rfl) rfl rfl ?_
    simp [List.range, List.range.loop, ints, intss, int, bool, row, frac, fracs, ← List.map_take, ← List.map_drop]

/-- A cursor that has given n bytes. -/
def crB (by' : List Int) (n : Nat) : Int × Int := crN by' (cr0 by') n

set_option maxRecDepth 8000 in
set_option maxHeartbeats 2000000 in
theorem l32New_new {nl : Bool} {by' : List Int} (hlen : by'.length ≤ 1048576) (n : Nat) (hn : n ≤ 1000) : NewOk Try.prog 40 (byts nl by') 87 [int (n : Int)] (crB by' n) := by
  have hnew := l01New_new (nl := nl) hlen
  have hcur := fun (k : Nat) => l01Byte_cur (nl := nl) (crN_ok (cr0_ok hlen) k)
  have hG : FnsOk Try.prog [] := .nil
  refine newOk_of Try.func40 rfl (by kernel_rfl) (new_fn (dt := []) (R := fun b => .v (ptrV b)) (ctx_ok eqOk hG) Try.func40 rfl (by kernel_rfl) rfl (by rfl) (pre := [_]) rfl rfl rfl (by rfl) (by rfl) (by rfl) (by rfl) hnew fun w F0 code b hbytes hF0 hbF => ?_)
  simp [Try.f40, List.range, List.range.loop, ints, intss, int, bool, row, frac, fracs, ← List.map_take, ← List.map_drop, byts]
  refine tyo_ops 1 (ctx_ok eqOk hG) curJ_stable (by simp) ?_
  simp [List.range, List.range.loop, ints, intss, int, bool, row, frac, fracs, ← List.map_take, ← List.map_drop]
  refine tyo_end (by simp) ?_
  simp only [thenY_normal]
  refine ty_seq (ty_seq (ty_awp (ctx_ok eqOk hG) mixed curJ_stable (live := [true, true, false, false, true, true, true, false, false, false, false, true]) fun X A w1 => ?_))
  simp [List.range, List.range.loop, ints, intss, int, bool, row, frac, fracs, ← List.map_take, ← List.map_drop, thenY_normal]
  refine ty_block (ty_loop (α := {k : Nat // k ≤ n}) (fun k => ⟨[.junk, int n, .junk, .junk, .junk, .v (ptrV b), int k.1, .junk, .junk, .junk, .junk, .junk, .junk, .junk, .junk, .junk, .junk], []⟩) (fun k => crB by' k.1) (fun k => n - k.1) ⟨0, Nat.zero_le _⟩ ⟨?_, rfl⟩ ?_)
  · simp [sub, slotsLe, clean, keep, refsL, refs, once, place, renL, ren, List.replicate, int, bool]
  rintro ⟨k, hk⟩
  by_cases hkn : k < n
  · refine ty_seq (ty_awp (ctx_ok eqOk hG) mixed curJ_stable (live := [true, true, false, false, true, true, true, false, false, false, false, true]) fun X A w1 => ?_)
    simp [List.range, List.range.loop, ints, intss, int, bool, row, frac, fracs, ← List.map_take, ← List.map_drop, thenY_normal, hkn]
    refine ty_seq (ty_block (ty_reg (tyo_ops 1 (ctx_ok eqOk hG) curJ_stable (by simp) ?_)))
    simp [List.range, List.range.loop, ints, intss, int, bool, row, frac, fracs, ← List.map_take, ← List.map_drop]
    refine tyo_cur hbytes hF0 hbF (hcur k) rfl rfl rfl (by rfl) (by rfl) (by rfl) ?_
    simp [List.range, List.range.loop, ints, intss, int, bool, row, frac, fracs, ← List.map_take, ← List.map_drop]
    refine tyo_end (by simp) ?_
    simp only [thenY_normal, inBY_normal]
    refine ty_awp (ctx_ok eqOk hG) mixed curJ_stable (live := [true, true, false, false, true, true, true, false, false, false, false, true]) fun X A w1 => ?_
    have hwk : IntKind.i64.wrap ((k : Int) + 1) = (k : Int) + 1 := wrapI (by omega) (by omega)
    simp [List.range, List.range.loop, ints, intss, int, bool, row, frac, fracs, ← List.map_take, ← List.map_drop, thenY_normal, hwk]
    exact ⟨⟨k + 1, hkn⟩, by simp [sub, slotsLe, clean, keep, refsL, refs, once, place, renL, ren, List.replicate, int, bool], rfl, by simp; omega⟩
  · obtain rfl : k = n := by omega
    refine ty_seq (ty_awp (ctx_ok eqOk hG) mixed curJ_stable (live := [true, true, false, false, true, true, true, false, false, false, false, true]) fun X A w1 => ?_)
    simp [List.range, List.range.loop, ints, intss, int, bool, row, frac, fracs, ← List.map_take, ← List.map_drop, thenY_normal, thenY_exit, inBY_exit]
    refine ty_awp (ctx_ok eqOk hG) mixed curJ_stable (live := [true, true, false, false, true, true, true, false, false, false, false, true]) fun X A w1 => ?_
    simp [List.range, List.range.loop, ints, intss, int, bool, row, frac, fracs, ← List.map_take, ← List.map_drop, thenY_ret]

end Go.Proofs.Ytakladjlnkojjaa.Ax

/-
  Contracts: bids and numbers of a code (the reference's draws). No condition.
-/
namespace Go.Proofs.Ytakladjlnkojjaa.Ax
open Go Go.RowKit
set_option linter.unusedSimpArgs false

/-- The bids of a code. -/
def mkBids (by' : List Int) : List (Bool × List Int) := drA by' (cr0 by') 3 3 15
theorem makeBids_call {nl : Bool} {by' : List Int} (hlen : by'.length ≤ 1048576) : CallOk Try.prog 6 [byts nl by', int 0] (.sl false 1 ((mkBids by').map row)) := by
  have hnew := l32New_new (nl := nl) hlen 0 (by omega)
  have hcur := l27Draw_cur (nl := nl) (cr0_ok hlen)
  have hG : FnsOk Try.prog [] := .nil
  refine callOk_of_new (s1 := crN by' (cr0 by') (2 + drN by' (cr0 by') 3 * drG by' (cr0 by') 3)) Try.func6 rfl (by kernel_rfl) (new_fn (dt := []) (ctx_ok eqOk hG) Try.func6 rfl (by kernel_rfl) rfl (by rfl) (pre := [_, _]) rfl rfl rfl (by rfl) (by rfl) (by rfl) (by rfl) hnew fun w F0 code b hbytes hF0 hbF => ?_)
  simp [Try.f6, List.range, List.range.loop, ints, intss, int, bool, row, frac, fracs, ← List.map_take, ← List.map_drop, byts]
  refine tyo_cur hbytes hF0 hbF hcur rfl rfl rfl (by rfl) (by rfl) (by rfl) ?_
  simp [List.range, List.range.loop, ints, intss, int, bool, row, frac, fracs, ← List.map_take, ← List.map_drop]
  refine tyo_ops 1 (ctx_ok eqOk hG) curJ_stable (by simp) ?_
  simp [List.range, List.range.loop, ints, intss, int, bool, row, frac, fracs, ← List.map_take, ← List.map_drop]
  refine tyo_end (by simp) ?_
  simp only [thenY_normal]
  refine ty_awp (ctx_ok eqOk hG) mixed curJ_stable (live := [true, true, false, false, true]) fun X A w1 => ?_
  simp [List.range, List.range.loop, ints, intss, int, bool, row, frac, fracs, ← List.map_take, ← List.map_drop, thenY_ret, mkBids]

/-- Number n of a code. -/
def mkNum (by' : List Int) (n : Nat) : Int := crX by' (crB by' n) * 256 + crX by' (crB by' (n + 1))
theorem mkNum_bd {by' : List Int} {n : Nat} : 0 ≤ mkNum by' n ∧ mkNum by' n ≤ 65535 := by
  have h1 := crX_bd (by' := by') (s := crB by' n)
  have h2 := crX_bd (by' := by') (s := crB by' (n + 1))
  unfold mkNum; omega
theorem makeNum_call {nl : Bool} {by' : List Int} (hlen : by'.length ≤ 1048576) (n : Nat) (hn : n ≤ 1000) : CallOk Try.prog 15 [byts nl by', int n] (.v (.int .i64 (mkNum by' n))) := by
  have hnew := l32New_new (nl := nl) hlen n hn
  have hcur := fun (k : Nat) => l01Byte_cur (nl := nl) (crN_ok (cr0_ok hlen) k)
  have h1 := crX_bd (by' := by') (s := crB by' n)
  have h2 := crX_bd (by' := by') (s := crB by' (n + 1))
  have hmn : mkNum by' n = crX by' (crB by' n) * 256 + crX by' (crB by' (n + 1)) := rfl
  have hG : FnsOk Try.prog [] := .nil
  refine callOk_of_new (s1 := crB by' (n + 2)) Try.func15 rfl (by kernel_rfl) (new_fn (dt := []) (ctx_ok eqOk hG) Try.func15 rfl (by kernel_rfl) rfl (by rfl) (pre := [_, _]) rfl rfl rfl (by rfl) (by rfl) (by rfl) (by rfl) hnew fun w F0 code b hbytes hF0 hbF => ?_)
  simp [Try.f15, List.range, List.range.loop, ints, intss, int, bool, row, frac, fracs, ← List.map_take, ← List.map_drop, byts]
  refine tyo_ops 1 (ctx_ok eqOk hG) curJ_stable (by simp) ?_
  simp [List.range, List.range.loop, ints, intss, int, bool, row, frac, fracs, ← List.map_take, ← List.map_drop]
  refine tyo_end (by simp) ?_
  simp only [thenY_normal]
  refine ty_seq (ty_reg (tyo_ops 1 (ctx_ok eqOk hG) curJ_stable (by simp) ?_))
  simp [List.range, List.range.loop, ints, intss, int, bool, row, frac, fracs, ← List.map_take, ← List.map_drop]
  refine tyo_cur hbytes hF0 hbF (hcur n) rfl rfl rfl (by rfl) (by rfl) (by rfl) ?_
  simp [List.range, List.range.loop, ints, intss, int, bool, row, frac, fracs, ← List.map_take, ← List.map_drop]
  refine tyo_ops 2 (ctx_ok eqOk hG) curJ_stable (by simp) ?_
  simp [List.range, List.range.loop, ints, intss, int, bool, row, frac, fracs, ← List.map_take, ← List.map_drop]
  refine tyo_cur hbytes hF0 hbF (hcur (n + 1)) rfl rfl rfl (by rfl) (by rfl) (by rfl) ?_
  simp [List.range, List.range.loop, ints, intss, int, bool, row, frac, fracs, ← List.map_take, ← List.map_drop]
  refine tyo_ops 2 (ctx_ok eqOk hG) curJ_stable (by simp) ?_
  have e1 : crN by' (cr0 by') n = crB by' n := rfl
  have e2 : crN by' (cr0 by') (n + 1) = crB by' (n + 1) := rfl
  rw [e1, e2]
  generalize crX by' (crB by' n) = x at *
  generalize crX by' (crB by' (n + 1)) = y at *
  have hw1 : IntKind.i64.wrap (x * 256) = x * 256 := wrapI (by omega) (by omega)
  have hw2 : IntKind.i64.wrap (x * 256 + y) = x * 256 + y := wrapI (by omega) (by omega)
  simp [List.range, List.range.loop, ints, intss, int, bool, row, frac, fracs, ← List.map_take, ← List.map_drop, hw1, hw2]
  refine tyo_end (by simp) ?_
  simp only [thenY_normal]
  refine ty_awp (ctx_ok eqOk hG) mixed curJ_stable (live := [true, true, false, false, true, true]) fun X A w1 => ?_
  simp [List.range, List.range.loop, ints, intss, int, bool, row, frac, fracs, ← List.map_take, ← List.map_drop, thenY_ret, hmn]
  rfl

theorem map_bAV_inj {a b : List Int} : a.map bAV = b.map bAV ↔ a = b := List.map_inj_right (fun x y h => by simpa [bAV] using h)
noncomputable def mMkBids : List AV → Option AV := mk (fun p => p.2.length ≤ 1048576) (fun (p : Bool × List Int) => [byts p.1 p.2, int 0]) (fun p => .sl false 1 ((mkBids p.2).map row))
theorem mMkBids_at (nl : Bool) (by' : List Int) (h : by'.length ≤ 1048576) : mMkBids [.sl nl 1 (by'.map bAV), .v (.int .i64 0)] = some (.sl false 1 ((mkBids by').map row)) :=
  mk_eq (enc := fun (p : Bool × List Int) => [byts p.1 p.2, int 0]) (x := (nl, by')) (by rintro ⟨a, b⟩ ⟨c, d⟩ h; simp [byts, map_bAV_inj] at h; simp [h]) h
theorem makeBids_ok : FnOk Try.prog 6 mMkBids := by
  refine mk_ok fun ⟨nl, by'⟩ h => ?_
  exact makeBids_call h
noncomputable def mMkNum : List AV → Option AV := mk (fun p => p.2.1.length ≤ 1048576 ∧ p.2.2 ≤ 1000) (fun (p : Bool × List Int × Nat) => [byts p.1 p.2.1, int (p.2.2 : Int)]) (fun p => int (mkNum p.2.1 p.2.2))
theorem mMkNum_at (nl : Bool) (by' : List Int) (n : Nat) (h : by'.length ≤ 1048576 ∧ n ≤ 1000) : mMkNum [.sl nl 1 (by'.map bAV), .v (.int .i64 (n : Int))] = some (.v (.int .i64 (mkNum by' n))) :=
  mk_eq (enc := fun (p : Bool × List Int × Nat) => [byts p.1 p.2.1, int (p.2.2 : Int)]) (x := (nl, by', n)) (by rintro ⟨a, b, c⟩ ⟨d, e, f⟩ h; simp [byts, int, map_bAV_inj] at h; obtain ⟨⟨rfl, rfl⟩, h⟩ := h; simp only; rw [show c = f by omega]) h
theorem makeNum_ok : FnOk Try.prog 15 mMkNum := by
  refine mk_ok fun ⟨nl, by', n⟩ h => ?_
  exact makeNum_call h.1 n h.2

theorem drT_all {by' : List Int} {s : Int × Int} {m g n : Nat} (hm : 0 < m) : ∀ r ∈ drT by' s m g n, r.1 = false ∧ r.2.length = g ∧ ∀ x ∈ r.2, 0 ≤ x ∧ x < (m : Int) := by
  intro r hr
  obtain ⟨i, _, rfl⟩ := List.mem_map.1 hr
  refine ⟨rfl, drR_len, fun x hx => ?_⟩
  obtain ⟨j, _, rfl⟩ := List.mem_map.1 hx
  exact bk_bd hm
theorem drT_rect {by' : List Int} {s : Int × Int} {m g n : Nat} {a b c : Int} (hm : 0 < m) (hn1 : 1 ≤ n) (hn : (n : Int) ≤ a) (hg1 : 1 ≤ g) (hg : (g : Int) ≤ b) (hc : (m : Int) ≤ c + 1) : rectB (drT by' s m g n) a b c = true ∧ wid (drT by' s m g n) = g := by
  have hall := drT_all (by' := by') (s := s) (g := g) (n := n) hm
  have hl := drT_len (by' := by') (s := s) (m := m) (g := g) (n := n)
  generalize drT by' s m g n = L at *
  cases L with
  | nil => simp at hl; omega
  | cons r0 l =>
    have h0 := (hall r0 (by simp)).2.1
    refine ⟨?_, h0⟩
    simp only [rectB, Bool.and_eq_true, inR, decide_eq_true_eq, List.all_eq_true]
    refine ⟨⟨⟨by omega, by omega⟩, by omega, by omega⟩, fun r hr => ?_⟩
    obtain ⟨_, h1, h2⟩ := hall r hr
    simp only [rowIs, Bool.and_eq_true, decide_eq_true_eq, List.all_eq_true, inR]
    exact ⟨by omega, fun x hx => by have := h2 x hx; omega⟩
/-- What the bids are. -/
theorem mkBids_rect (by' : List Int) : rectB (mkBids by') 4 4 1000 = true ∧ (mkBids by').length ≤ 3 ∧ wid (mkBids by') ≤ 3 := by
  obtain ⟨n1, n2, _⟩ := drN_bd (by' := by') (s := cr0 by') (a := 3) (by omega)
  obtain ⟨g1, g2, _⟩ := drG_bd (by' := by') (s := cr0 by') (b := 3) (by omega)
  obtain ⟨h1, h2⟩ := drT_rect (by' := by') (s := cr0 by') (m := 15) (g := drG by' (cr0 by') 3) (n := drN by' (cr0 by') 3) (a := 4) (b := 4) (c := 1000) (by omega) n1 (by omega) g1 (by omega) (by omega)
  refine ⟨h1, ?_, ?_⟩
  · show (drT by' (cr0 by') 15 _ _).length ≤ 3
    rw [drT_len]; exact n2
  · show wid (drT by' (cr0 by') 15 _ _) ≤ 3
    rw [h2]; exact g2

end Go.Proofs.Ytakladjlnkojjaa.Ax
