/-
  Contracts: a cursor's next byte (the reference's draws). No condition.
-/
import Derived.Test.YtkfmhpgnhkdebaaGreatDoorCK4
import Derived.Test.YtkfmhpgnhkdebaaGreatDoorCB2
import Derived.Deep.QuietTactic
import Derived.BigQuiet
namespace Go.Proofs.YtkfmhpgnhkdebaaGreatDoor.Ax
open Go Go.RowKit
set_option linter.unusedSimpArgs false
def bAV (n : Int) : AV := .v (.int .u8 n)
def byts (nl : Bool) (l : List Int) : AV := .sl nl 1 (l.map bAV)
def stB (h : Int) : Int := wrap64 (wrap64 (h * 6364136223846793005) + 1442695040888963407)
def byB (h : Int) : Int := bits .and .i64 (bits .xor .i64 (stB h / 8589934592) (stB h / 35184372088832)) 255
def crX (by' : List Int) (s : Int × Int) : Int := if s.1 < (by'.length : Int) then bits .and .i64 (wrap64 (byB s.2 + wrap64 (by'.getD s.1.toNat 0))) 255 else byB s.2
def crS (by' : List Int) (s : Int × Int) : Int × Int := if s.1 < (by'.length : Int) then (wrap64 (s.1 + 1), stB s.2) else (s.1, stB s.2)
theorem and255 (x : Int) : 0 ≤ bits .and .i64 x 255 ∧ bits .and .i64 x 255 ≤ 255 := by
  have h : (BitVec.ofInt IntKind.i64.bits x &&& BitVec.ofInt IntKind.i64.bits 255).toNat ≤ 255 := by
    rw [BitVec.toNat_and]
    exact Nat.le_trans Nat.and_le_right (by decide)
  have e : bits .and .i64 x 255 = IntKind.i64.wrap ((BitVec.ofInt IntKind.i64.bits x &&& BitVec.ofInt IntKind.i64.bits 255).toNat : Int) := rfl
  rw [e, wrapI (by omega) (by omega)]
  omega
theorem crX_bd {by' : List Int} {s : Int × Int} : 0 ≤ crX by' s ∧ crX by' s ≤ 255 := by
  unfold crX byB; split <;> exact and255 _
structure CrOk (by' : List Int) (s : Int × Int) : Prop where
  few : by'.length ≤ 1048576
  i0 : 0 ≤ s.1
  il : s.1 ≤ (by'.length : Int)
theorem CrOk.next {by' : List Int} {s : Int × Int} (h : CrOk by' s) : CrOk by' (crS by' s) := by
  have h1 := h.few; have h2 := h.i0; have h3 := h.il
  unfold crS
  split
  · have e : wrap64 (s.1 + 1) = s.1 + 1 := by unfold wrap64; omega
    exact ⟨h1, by simp only [e]; omega, by simp only [e]; omega⟩
  · exact ⟨h1, h2, h3⟩
theorem cur_heap {code : Value} {T : TypeId} {b : Nat} {w : World} {i h u v : Int} {n : Nat} (hb : w.heap[b]? = some (curC code T (i, h))) :
    ((((w.setCell ⟨b, 2, none⟩ (.int .i64 u)).drewN n).setCell ⟨b, 1, none⟩ (.int .i64 v)).heap[b]? = some (curC code T (v, u)) ∧ Frm (fun x => x = b) w (((w.setCell ⟨b, 2, none⟩ (.int .i64 u)).drewN n).setCell ⟨b, 1, none⟩ (.int .i64 v))) ∧
    (((w.setCell ⟨b, 2, none⟩ (.int .i64 u)).drewN n).heap[b]? = some (curC code T (i, u)) ∧ Frm (fun x => x = b) w ((w.setCell ⟨b, 2, none⟩ (.int .i64 u)).drewN n)) := by
  refine ⟨⟨?_, rfl, rfl, rfl, ?_, fun k _ hk => ?_⟩, ?_, rfl, rfl, rfl, ?_, fun k _ hk => ?_⟩
  · simp [World.setCell, World.drewN, Array.getElem?_modify, hb, curC]
  · simp [World.setCell, World.drewN]
  · have : ¬ b = k := fun e => hk e.symm
    simp [World.setCell, World.drewN, Array.getElem?_modify, this]
  · simp [World.setCell, World.drewN, Array.getElem?_modify, hb, curC]
  · simp [World.setCell, World.drewN]
  · have : ¬ b = k := fun e => hk e.symm
    simp [World.setCell, World.drewN, Array.getElem?_modify, this]
theorem cur_heap2 {code : Value} {T : TypeId} {b : Nat} {w : World} {i h u : Int} {m n : Nat} (hb : w.heap[b]? = some (curC code T (i, h))) :
    (((w.setCell ⟨b, 2, none⟩ (.int .i64 u)).drewN m).drewN n).heap[b]? = some (curC code T (i, u)) ∧ Frm (fun x => x = b) w (((w.setCell ⟨b, 2, none⟩ (.int .i64 u)).drewN m).drewN n) := by
  refine ⟨?_, rfl, rfl, rfl, ?_, fun k _ hk => ?_⟩
  · simp [World.setCell, World.drewN, Array.getElem?_modify, hb, curC]
  · simp [World.setCell, World.drewN]
  · have : ¬ b = k := fun e => hk e.symm
    simp [World.setCell, World.drewN, Array.getElem?_modify, this]
section
variable (b : Nat) (w : World) (ad : Option Addr) (len cap : Nat)
theorem l01Byte_in (i : Nat) (h : Int) (hb : w.heap[b]? = some (curC (.slice ad len cap) 179 (i, h))) (v : Int) (cb co : Nat) (had : ad = some ⟨cb, co, none⟩) (hne : cb ≠ b) (hcv : w.cell? ⟨cb, co + i, none⟩ = some (.int .u8 v)) (hlt : i < len) :
    Calls Tryz.prog 115 #[ptrV b] w fun e w' => e = .returned (.int .i64 (bits .and .i64 (wrap64 (byB h + wrap64 v)) 255)) ∧ Frm (fun x => x = b) w w' ∧ w'.heap[b]? = some (curC (.slice ad len cap) 179 (wrap64 (i + 1), stB h)) := by
  have hc0 : w.cell? ⟨b, 0, none⟩ = some (.slice ad len cap) := by simp [World.cell?, hb, curC]
  have hc1 : w.cell? ⟨b, 1, none⟩ = some (.int .i64 i) := by simp [World.cell?, hb, curC]
  have hc2 : w.cell? ⟨b, 2, none⟩ = some (.int .i64 h) := by simp [World.cell?, hb, curC]
  have hf1 : w.frozen? ⟨b, 1, none⟩ = false := by simp [World.frozen?, hb, curC]
  have hf2 : w.frozen? ⟨b, 2, none⟩ = false := by simp [World.frozen?, hb, curC]
  unfold ptrV byB stB
  subst had
  have hlt' : (i : Int) < (len : Int) := by omega
  go_enter Tryz.func115, Tryz.ntmps115
  go_wp2
  go_quiet (fail)
  go_wp2
  go_quiet (fail)
  go_wp2
  go_quiet (fail)
  go_wp2
  go_ret
  exact ⟨rfl, (cur_heap hb).1.2, (cur_heap hb).1.1⟩
theorem l01Byte_out (i h : Int) (hb : w.heap[b]? = some (curC (.slice ad len cap) 179 (i, h))) (hlt : ¬ i < (len : Int)) :
    Calls Tryz.prog 115 #[ptrV b] w fun e w' => e = .returned (.int .i64 (byB h)) ∧ Frm (fun x => x = b) w w' ∧ w'.heap[b]? = some (curC (.slice ad len cap) 179 (i, stB h)) := by
  have hc0 : w.cell? ⟨b, 0, none⟩ = some (.slice ad len cap) := by simp [World.cell?, hb, curC]
  have hc1 : w.cell? ⟨b, 1, none⟩ = some (.int .i64 i) := by simp [World.cell?, hb, curC]
  have hc2 : w.cell? ⟨b, 2, none⟩ = some (.int .i64 h) := by simp [World.cell?, hb, curC]
  have hf1 : w.frozen? ⟨b, 1, none⟩ = false := by simp [World.frozen?, hb, curC]
  have hf2 : w.frozen? ⟨b, 2, none⟩ = false := by simp [World.frozen?, hb, curC]
  unfold ptrV byB stB
  go_enter Tryz.func115, Tryz.ntmps115
  go_wp2
  go_quiet (fail)
  go_wp2
  go_quiet (fail)
  go_wp2
  all_goals (go_ret; exact ⟨rfl, (cur_heap2 hb).2, (cur_heap2 hb).1⟩)
end
theorem l01Byte_cur {nl : Bool} {by' : List Int} {s : Int × Int} (hs : CrOk by' s) : CurOk Tryz.prog 115 (byts nl by') 179 [] s (crS by' s) (.v (.int .i64 (crX by' s))) := by
  refine ⟨⟨_, Tryz.func115, by kernel_rfl, by kernel_rfl⟩, fun code b w F vals hbytes hb hF hbF hvals => ?_⟩
  simp only [RepL] at hvals
  subst hvals
  obtain ⟨i, h⟩ := s
  have h0 := hs.i0
  simp only at h0
  simp only [byts, Rep, List.length_map] at hbytes
  obtain ⟨ad, len, cap, rfl, hlen, _, _, hrow⟩ := hbytes
  subst hlen
  by_cases hi : i < (by'.length : Int)
  · have hin : i.toNat < by'.length := by omega
    rcases hrow with ⟨_, _, hz, _⟩ | ⟨cb, co, rfl, _, hrow⟩ | ⟨_, _, hz⟩
    · omega
    · obtain ⟨z, h1, _, _, hFb, h4⟩ := RepRow.get hrow i.toNat (bAV by'[i.toNat]) (by rw [List.getElem?_map, List.getElem?_eq_getElem hin]; rfl)
      simp only [Rep, bAV] at h1
      obtain ⟨rfl, _⟩ := h1
      have hcv : w.cell? ⟨cb, co + i.toNat, none⟩ = some (.int .u8 (by'.getD i.toNat 0)) := by
        rw [List.getD_eq_getElem?_getD, List.getElem?_eq_getElem hin]
        simpa using h4 0 (.int .u8 by'[i.toNat]) (by simp [Value.cells])
      obtain ⟨i, rfl⟩ := Int.eq_ofNat_of_zero_le h0
      rw [Int.toNat_natCast] at hin hcv
      refine (l01Byte_in b w _ by'.length cap i h hb _ cb co rfl (fun e => hbF (e ▸ hFb)) hcv hin).mono fun e w' he => ?_
      obtain ⟨rfl, hfr, hw⟩ := he
      refine ⟨_, fun _ => False, rfl, hfr, ?_, fun _ h => h.elim, ?_⟩
      · rw [hw]; simp only [crS, if_pos hi]
      · simp only [Own, crX, if_pos hi, Int.toNat_natCast, Value.oneCell', and_self]
    · simp only [List.map_eq_nil_iff] at hz
      subst hz; simp at hin
  · refine (l01Byte_out b w ad by'.length cap i h hb hi).mono fun e w' he => ?_
    obtain ⟨rfl, hfr, hw⟩ := he
    refine ⟨_, fun _ => False, rfl, hfr, ?_, fun _ h => h.elim, ?_⟩
    · rw [hw]; simp only [crS, if_neg hi]
    · simp only [Own, crX, if_neg hi, Value.oneCell', and_self]
end Go.Proofs.YtkfmhpgnhkdebaaGreatDoor.Ax
namespace Go.Proofs.YtkfmhpgnhkdebaaGreatDoor.Ax
open Go Go.RowKit
set_option linter.unusedSimpArgs false
def bw (by' : List Int) (s : Int × Int) (n : Nat) : Int := (crX by' s).tmod (n : Int)
theorem bw_bd {by' : List Int} {s : Int × Int} {n : Nat} (h : 0 < n) : 0 ≤ bw by' s n ∧ bw by' s n < n := by
  have := crX_bd (by' := by') (s := s)
  unfold bw
  rw [Int.tmod_eq_emod_of_nonneg this.1]
  exact ⟨Int.emod_nonneg _ (by omega), Int.emod_lt_of_pos _ (by omega)⟩
theorem l01Below_cur {nl : Bool} {by' : List Int} {s : Int × Int} (hs : CrOk by' s) {n : Nat} (h0 : 0 < n) (hn : n ≤ 256) : CurOk Tryz.prog 148 (byts nl by') 179 [int n] s (crS by' s) (.v (.int .i64 (bw by' s n))) := by
  have hcur := l01Byte_cur (nl := nl) hs
  have hx := crX_bd (by' := by') (s := s)
  have hG : FnsOk Tryz.prog [] := .nil
  refine curOk_of_ty (dt := []) (ctx_ok eqOk hG) Tryz.func148 rfl (by kernel_rfl) (by kernel_rfl) fun w F0 code b hbytes hF0 hbF => ?_
  refine ty_seq (ty_awp (ctx_ok eqOk hG) mixed curJ_stable (live := [true, true, false, false, true, true, true, true, true, false, true, false, true]) fun X A w1 => ?_)
  simp [Tryz.f148, List.range, List.range.loop, ints, intss, int, bool, row, frac, fracs, ← List.map_take, ← List.map_drop, thenY_normal]
  refine ty_seq (ty_awp (ctx_ok eqOk hG) mixed curJ_stable (live := [true, true, false, false, true, true, true, true, true, false, true, false, true]) fun X A w1 => ?_)
  have hn0 : ¬ (n : Int) ≤ 0 := by omega
  have hn1 : ¬ n = 0 := by omega
  simp [List.range, List.range.loop, ints, intss, int, bool, row, frac, fracs, ← List.map_take, ← List.map_drop, thenY_normal, hn0, hn1]
  refine ty_seq (ty_seq (ty_awp (ctx_ok eqOk hG) mixed curJ_stable (live := [true, true, false, false, true, true, true, true, true, false, true, false, true]) fun X A w1 => ?_))
  have hn2 : (n : Int) ≤ 256 := by omega
  simp [List.range, List.range.loop, ints, intss, int, bool, row, frac, fracs, ← List.map_take, ← List.map_drop, thenY_normal, hn, hn2]
  refine ty_cond (t := true) (by rfl) (fun _ => ?_) (fun h => by cases h)
  refine ty_seq (ty_reg (tyo_ops 1 (ctx_ok eqOk hG) curJ_stable (by simp) ?_))
  simp [List.range, List.range.loop, ints, intss, int, bool, row, frac, fracs, ← List.map_take, ← List.map_drop]
  refine tyo_cur hbytes hF0 hbF hcur rfl rfl rfl (by rfl) (by rfl) (by rfl) ?_
  simp [List.range, List.range.loop, ints, intss, int, bool, row, frac, fracs, ← List.map_take, ← List.map_drop]
  refine tyo_ops 3 (ctx_ok eqOk hG) curJ_stable (by simp) ?_
  simp [List.range, List.range.loop, ints, intss, int, bool, row, frac, fracs, ← List.map_take, ← List.map_drop, hn1]
  refine tyo_end (by simp) ?_
  simp only [thenY_normal]
  refine ty_awp (ctx_ok eqOk hG) mixed curJ_stable (live := [true, true, false, false, true, true, true, true, true, false, true, false, true]) fun X A w1 => ?_
  simp [List.range, List.range.loop, ints, intss, int, bool, row, frac, fracs, ← List.map_take, ← List.map_drop, thenY_ret, bw]
def crN (by' : List Int) (s : Int × Int) : Nat → Int × Int
  | 0 => s
  | k + 1 => crS by' (crN by' s k)
theorem crN_ok {by' : List Int} {s : Int × Int} (h : CrOk by' s) : ∀ k, CrOk by' (crN by' s k)
  | 0 => h
  | k + 1 => (crN_ok h k).next
end Go.Proofs.YtkfmhpgnhkdebaaGreatDoor.Ax
namespace Go.Proofs.YtkfmhpgnhkdebaaGreatDoor.Ax
open Go Go.RowKit
set_option linter.unusedSimpArgs false
end Go.Proofs.YtkfmhpgnhkdebaaGreatDoor.Ax
namespace Go.Proofs.YtkfmhpgnhkdebaaGreatDoor.Ax
open Go Go.RowKit
set_option linter.unusedSimpArgs false
def mkF (t b : Int) : (Int × Int) × Bool := if fracOk (t.tdiv (Int.gcd t b), b.tdiv (Int.gcd t b)) = true then ((t.tdiv (Int.gcd t b), b.tdiv (Int.gcd t b)), true) else ((0, 0), false)
theorem tdiv_bd {x y m : Int} (h1 : -m ≤ x) (h2 : x ≤ m) : -m ≤ x.tdiv y ∧ x.tdiv y ≤ m := by
  have : (x.tdiv y).natAbs ≤ x.natAbs := by rw [Int.natAbs_tdiv]; exact Nat.div_le_self _ _
  omega
theorem gcd_bd {x y : Int} (h : y ≠ 0) : 0 < (Int.gcd x y : Int) ∧ (Int.gcd x y : Int) ≤ y.natAbs := by
  have h1 : 0 < Int.gcd x y := Int.gcd_pos_of_ne_zero_right _ h
  have h2 : Int.gcd x y ∣ y.natAbs := Nat.gcd_dvd_right _ _
  have := Nat.le_of_dvd (by omega) h2
  omega
def addF (x y : Int × Int) : (Int × Int) × Bool := if fracOk x && fracOk y then mkF (x.1 * y.2 + y.1 * x.2) (x.2 * y.2) else ((0, 0), false)
end Go.Proofs.YtkfmhpgnhkdebaaGreatDoor.Ax
