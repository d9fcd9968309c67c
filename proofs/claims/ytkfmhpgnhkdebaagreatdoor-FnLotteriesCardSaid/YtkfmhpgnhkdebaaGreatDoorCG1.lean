/-
  Contracts: a cursor's next byte (the reference's draws). No condition.
-/
import Derived.Test.YtkfmhpgnhkdebaaGreatDoorCK4
import Derived.Test.YtkfmhpgnhkdebaaGreatDoorCB2
import Derived.Deep.QuietTactic
import Derived.BigQuiet
namespace Go.Proofs.YtkfmhpgnhkdebaaGreatDoor.Ax
open Go Go.RowKit
set_option linter.unusedSimpArgs false
def bAV (n : Int) : AV := .v (.int .u8 n)
def byts (nl : Bool) (l : List Int) : AV := .sl nl 1 (l.map bAV)
def stB (h : Int) : Int := wrap64 (wrap64 (h * 6364136223846793005) + 1442695040888963407)
def byB (h : Int) : Int := bits .and .i64 (bits .xor .i64 (stB h / 8589934592) (stB h / 35184372088832)) 255
def crX (by' : List Int) (s : Int × Int) : Int := if s.1 < (by'.length : Int) then bits .and .i64 (wrap64 (byB s.2 + wrap64 (by'.getD s.1.toNat 0))) 255 else byB s.2
def crS (by' : List Int) (s : Int × Int) : Int × Int := if s.1 < (by'.length : Int) then (wrap64 (s.1 + 1), stB s.2) else (s.1, stB s.2)
theorem and255 (x : Int) : 0 ≤ bits .and .i64 x 255 ∧ bits .and .i64 x 255 ≤ 255 := by
  have h : (BitVec.ofInt IntKind.i64.bits x &&& BitVec.ofInt IntKind.i64.bits 255).toNat ≤ 255 := by
    rw [BitVec.toNat_and]
    exact Nat.le_trans Nat.and_le_right (by decide)
  have e : bits .and .i64 x 255 = IntKind.i64.wrap ((BitVec.ofInt IntKind.i64.bits x &&& BitVec.ofInt IntKind.i64.bits 255).toNat : Int) := rfl
  rw [e, wrapI (by omega) (by omega)]
  omega
theorem crX_bd {by' : List Int} {s : Int × Int} : 0 ≤ crX by' s ∧ crX by' s ≤ 255 := by
  unfold crX byB; split <;> exact and255 _
structure CrOk (by' : List Int) (s : Int × Int) : Prop where
  few : by'.length ≤ 1048576
  i0 : 0 ≤ s.1
  il : s.1 ≤ (by'.length : Int)
theorem CrOk.next {by' : List Int} {s : Int × Int} (h : CrOk by' s) : CrOk by' (crS by' s) := by
  have h1 := h.few; have h2 := h.i0; have h3 := h.il
  unfold crS
  split
  · have e : wrap64 (s.1 + 1) = s.1 + 1 := by unfold wrap64; omega
    exact ⟨h1, by simp only [e]; omega, by simp only [e]; omega⟩
  · exact ⟨h1, h2, h3⟩
theorem cur_heap {code : Value} {T : TypeId} {b : Nat} {w : World} {i h u v : Int} {n : Nat} (hb : w.heap[b]? = some (curC code T (i, h))) :
    ((((w.setCell ⟨b, 2, none⟩ (.int .i64 u)).drewN n).setCell ⟨b, 1, none⟩ (.int .i64 v)).heap[b]? = some (curC code T (v, u)) ∧ Frm (fun x => x = b) w (((w.setCell ⟨b, 2, none⟩ (.int .i64 u)).drewN n).setCell ⟨b, 1, none⟩ (.int .i64 v))) ∧
    (((w.setCell ⟨b, 2, none⟩ (.int .i64 u)).drewN n).heap[b]? = some (curC code T (i, u)) ∧ Frm (fun x => x = b) w ((w.setCell ⟨b, 2, none⟩ (.int .i64 u)).drewN n)) := by
  refine ⟨⟨?_, rfl, rfl, rfl, ?_, fun k _ hk => ?_⟩, ?_, rfl, rfl, rfl, ?_, fun k _ hk => ?_⟩
  · simp [World.setCell, World.drewN, Array.getElem?_modify, hb, curC]
  · simp [World.setCell, World.drewN]
  · have : ¬ b = k := fun e => hk e.symm
    simp [World.setCell, World.drewN, Array.getElem?_modify, this]
  · simp [World.setCell, World.drewN, Array.getElem?_modify, hb, curC]
  · simp [World.setCell, World.drewN]
  · have : ¬ b = k := fun e => hk e.symm
    simp [World.setCell, World.drewN, Array.getElem?_modify, this]
theorem cur_heap2 {code : Value} {T : TypeId} {b : Nat} {w : World} {i h u : Int} {m n : Nat} (hb : w.heap[b]? = some (curC code T (i, h))) :
    (((w.setCell ⟨b, 2, none⟩ (.int .i64 u)).drewN m).drewN n).heap[b]? = some (curC code T (i, u)) ∧ Frm (fun x => x = b) w (((w.setCell ⟨b, 2, none⟩ (.int .i64 u)).drewN m).drewN n) := by
  refine ⟨?_, rfl, rfl, rfl, ?_, fun k _ hk => ?_⟩
  · simp [World.setCell, World.drewN, Array.getElem?_modify, hb, curC]
  · simp [World.setCell, World.drewN]
  · have : ¬ b = k := fun e => hk e.symm
    simp [World.setCell, World.drewN, Array.getElem?_modify, this]
section
variable (b : Nat) (w : World) (ad : Option Addr) (len cap : Nat)
theorem l01Byte_in (i : Nat) (h : Int) (hb : w.heap[b]? = some (curC (.slice ad len cap) 179 (i, h))) (v : Int) (cb co : Nat) (had : ad = some ⟨cb, co, none⟩) (hne : cb ≠ b) (hcv : w.cell? ⟨cb, co + i, none⟩ = some (.int .u8 v)) (hlt : i < len) :
    Calls Tryz.prog 115 #[ptrV b] w fun e w' => e = .returned (.int .i64 (bits .and .i64 (wrap64 (byB h + wrap64 v)) 255)) ∧ Frm (fun x => x = b) w w' ∧ w'.heap[b]? = some (curC (.slice ad len cap) 179 (wrap64 (i + 1), stB h)) := by
  have hc0 : w.cell? ⟨b, 0, none⟩ = some (.slice ad len cap) := by simp [World.cell?, hb, curC]
  have hc1 : w.cell? ⟨b, 1, none⟩ = some (.int .i64 i) := by simp [World.cell?, hb, curC]
  have hc2 : w.cell? ⟨b, 2, none⟩ = some (.int .i64 h) := by simp [World.cell?, hb, curC]
  have hf1 : w.frozen? ⟨b, 1, none⟩ = false := by simp [World.frozen?, hb, curC]
  have hf2 : w.frozen? ⟨b, 2, none⟩ = false := by simp [World.frozen?, hb, curC]
  unfold ptrV byB stB
  subst had
  have hlt' : (i : Int) < (len : Int) := by omega
  go_enter Tryz.func115, Tryz.ntmps115
  go_wp2
  go_quiet (fail)
  go_wp2
  go_quiet (fail)
  go_wp2
  go_quiet (fail)
  go_wp2
  go_ret
  exact ⟨rfl, (cur_heap hb).1.2, (cur_heap hb).1.1⟩
theorem l01Byte_out (i h : Int) (hb : w.heap[b]? = some (curC (.slice ad len cap) 179 (i, h))) (hlt : ¬ i < (len : Int)) :
    Calls Tryz.prog 115 #[ptrV b] w fun e w' => e = .returned (.int .i64 (byB h)) ∧ Frm (fun x => x = b) w w' ∧ w'.heap[b]? = some (curC (.slice ad len cap) 179 (i, stB h)) := by
  have hc0 : w.cell? ⟨b, 0, none⟩ = some (.slice ad len cap) := by simp [World.cell?, hb, curC]
  have hc1 : w.cell? ⟨b, 1, none⟩ = some (.int .i64 i) := by simp [World.cell?, hb, curC]
  have hc2 : w.cell? ⟨b, 2, none⟩ = some (.int .i64 h) := by simp [World.cell?, hb, curC]
  have hf1 : w.frozen? ⟨b, 1, none⟩ = false := by simp [World.frozen?, hb, curC]
  have hf2 : w.frozen? ⟨b, 2, none⟩ = false := by simp [World.frozen?, hb, curC]
  unfold ptrV byB stB
  go_enter Tryz.func115, Tryz.ntmps115
  go_wp2
  go_quiet (fail)
  go_wp2
  go_quiet (fail)
  go_wp2
  all_goals (go_ret; exact ⟨rfl, (cur_heap2 hb).2, (cur_heap2 hb).1⟩)
end
theorem l01Byte_cur {nl : Bool} {by' : List Int} {s : Int × Int} (hs : CrOk by' s) : CurOk Tryz.prog 115 (byts nl by') 179 [] s (crS by' s) (.v (.int .i64 (crX by' s))) := by
  refine ⟨⟨_, Tryz.func115, by kernel_rfl, by kernel_rfl⟩, fun code b w F vals hbytes hb hF hbF hvals => ?_⟩
  simp only [RepL] at hvals
  subst hvals
  obtain ⟨i, h⟩ := s
  have h0 := hs.i0
  simp only at h0
  simp only [byts, Rep, List.length_map] at hbytes
  obtain ⟨ad, len, cap, rfl, hlen, _, _, hrow⟩ := hbytes
  subst hlen
  by_cases hi : i < (by'.length : Int)
  · have hin : i.toNat < by'.length := by omega
    rcases hrow with ⟨_, _, hz, _⟩ | ⟨cb, co, rfl, _, hrow⟩ | ⟨_, _, hz⟩
    · omega
    · obtain ⟨z, h1, _, _, hFb, h4⟩ := RepRow.get hrow i.toNat (bAV by'[i.toNat]) (by rw [List.getElem?_map, List.getElem?_eq_getElem hin]; rfl)
      simp only [Rep, bAV] at h1
      obtain ⟨rfl, _⟩ := h1
      have hcv : w.cell? ⟨cb, co + i.toNat, none⟩ = some (.int .u8 (by'.getD i.toNat 0)) := by
        rw [List.getD_eq_getElem?_getD, List.getElem?_eq_getElem hin]
        simpa using h4 0 (.int .u8 by'[i.toNat]) (by simp [Value.cells])
      obtain ⟨i, rfl⟩ := Int.eq_ofNat_of_zero_le h0
      rw [Int.toNat_natCast] at hin hcv
      refine (l01Byte_in b w _ by'.length cap i h hb _ cb co rfl (fun e => hbF (e ▸ hFb)) hcv hin).mono fun e w' he => ?_
      obtain ⟨rfl, hfr, hw⟩ := he
      refine ⟨_, fun _ => False, rfl, hfr, ?_, fun _ h => h.elim, ?_⟩
      · rw [hw]; simp only [crS, if_pos hi]
      · simp only [Own, crX, if_pos hi, Int.toNat_natCast, Value.oneCell', and_self]
    · simp only [List.map_eq_nil_iff] at hz
      subst hz; simp at hin
  · refine (l01Byte_out b w ad by'.length cap i h hb hi).mono fun e w' he => ?_
    obtain ⟨rfl, hfr, hw⟩ := he
    refine ⟨_, fun _ => False, rfl, hfr, ?_, fun _ h => h.elim, ?_⟩
    · rw [hw]; simp only [crS, if_neg hi]
    · simp only [Own, crX, if_neg hi, Value.oneCell', and_self]
end Go.Proofs.YtkfmhpgnhkdebaaGreatDoor.Ax
namespace Go.Proofs.YtkfmhpgnhkdebaaGreatDoor.Ax
open Go Go.RowKit
set_option linter.unusedSimpArgs false
def bw (by' : List Int) (s : Int × Int) (n : Nat) : Int := (crX by' s).tmod (n : Int)
theorem bw_bd {by' : List Int} {s : Int × Int} {n : Nat} (h : 0 < n) : 0 ≤ bw by' s n ∧ bw by' s n < n := by
  have := crX_bd (by' := by') (s := s)
  unfold bw
  rw [Int.tmod_eq_emod_of_nonneg this.1]
  exact ⟨Int.emod_nonneg _ (by omega), Int.emod_lt_of_pos _ (by omega)⟩
theorem l01Below_cur {nl : Bool} {by' : List Int} {s : Int × Int} (hs : CrOk by' s) {n : Nat} (h0 : 0 < n) (hn : n ≤ 256) : CurOk Tryz.prog 148 (byts nl by') 179 [int n] s (crS by' s) (.v (.int .i64 (bw by' s n))) := by
  have hcur := l01Byte_cur (nl := nl) hs
  have hx := crX_bd (by' := by') (s := s)
  have hG : FnsOk Tryz.prog [] := .nil
  refine curOk_of_ty (dt := []) (ctx_ok eqOk hG) Tryz.func148 rfl (by kernel_rfl) (by kernel_rfl) fun w F0 code b hbytes hF0 hbF => ?_
  refine ty_seq (ty_awp (ctx_ok eqOk hG) mixed curJ_stable (live := [true, true, false, false, true, true, true, true, true, false, true, false, true]) fun X A w1 => ?_)
  simp [Tryz.f148, List.range, List.range.loop, ints, intss, int, bool, row, frac, fracs, ← List.map_take, ← List.map_drop, thenY_normal]
  refine ty_seq (ty_awp (ctx_ok eqOk hG) mixed curJ_stable (live := [true, true, false, false, true, true, true, true, true, false, true, false, true]) fun X A w1 => ?_)
  have hn0 : ¬ (n : Int) ≤ 0 := by omega
  have hn1 : ¬ n = 0 := by omega
  simp [List.range, List.range.loop, ints, intss, int, bool, row, frac, fracs, ← List.map_take, ← List.map_drop, thenY_normal, hn0, hn1]
  refine ty_seq (ty_seq (ty_awp (ctx_ok eqOk hG) mixed curJ_stable (live := [true, true, false, false, true, true, true, true, true, false, true, false, true]) fun X A w1 => ?_))
  have hn2 : (n : Int) ≤ 256 := by omega
  simp [List.range, List.range.loop, ints, intss, int, bool, row, frac, fracs, ← List.map_take, ← List.map_drop, thenY_normal, hn, hn2]
  refine ty_cond (t := true) (by rfl) (fun _ => ?_) (fun h => by cases h)
  refine ty_seq (ty_reg (tyo_ops 1 (ctx_ok eqOk hG) curJ_stable (by simp) ?_))
  simp [List.range, List.range.loop, ints, intss, int, bool, row, frac, fracs, ← List.map_take, ← List.map_drop]
  refine tyo_cur hbytes hF0 hbF hcur rfl rfl rfl (by rfl) (by rfl) (by rfl) ?_
  simp [List.range, List.range.loop, ints, intss, int, bool, row, frac, fracs, ← List.map_take, ← List.map_drop]
  refine tyo_ops 3 (ctx_ok eqOk hG) curJ_stable (by simp) ?_
  simp [List.range, List.range.loop, ints, intss, int, bool, row, frac, fracs, ← List.map_take, ← List.map_drop, hn1]
  refine tyo_end (by simp) ?_
  simp only [thenY_normal]
  refine ty_awp (ctx_ok eqOk hG) mixed curJ_stable (live := [true, true, false, false, true, true, true, true, true, false, true, false, true]) fun X A w1 => ?_
  simp [List.range, List.range.loop, ints, intss, int, bool, row, frac, fracs, ← List.map_take, ← List.map_drop, thenY_ret, bw]
def crN (by' : List Int) (s : Int × Int) : Nat → Int × Int
  | 0 => s
  | k + 1 => crS by' (crN by' s k)
theorem crN_ok {by' : List Int} {s : Int × Int} (h : CrOk by' s) : ∀ k, CrOk by' (crN by' s k)
  | 0 => h
  | k + 1 => (crN_ok h k).next
end Go.Proofs.YtkfmhpgnhkdebaaGreatDoor.Ax
namespace Go.Proofs.YtkfmhpgnhkdebaaGreatDoor.Ax
open Go Go.RowKit
set_option linter.unusedSimpArgs false
def partB (f : Int × Int) : Bool := fracOk f && inR 0 f.2 f.1
noncomputable def mPart : List AV → Option AV := mk (fun _ => True) (fun (p : (Int) × (Int)) => [frac (p.1, p.2)]) (fun p => bool (partB (p.1, p.2)))
theorem mPart_at (t : Int) (b : Int) : mPart [.agg [.v (.int .i64 t), .v (.int .i64 b)]] = some (.v (.bool (partB (t, b)))) :=
  mk_eq (enc := fun (p : (Int) × (Int)) => [frac (p.1, p.2)]) (x := (t, b)) (by rintro ⟨a0, a1⟩ ⟨b0, b1⟩ h; simp [ints, intss, int, bool, row, frac, fracs, map_int_inj, map_row_inj, frac_inj, map_frac_inj] at h; simp [h]) trivial
set_option maxHeartbeats 1000000 in
theorem isPart_ok : FnOk Tryz.prog 102 mPart := by
  refine mk_ok fun ⟨t, b⟩ _ => ?_
  have hG : FnsOk Tryz.prog [(111, mFracOk), (99, mWithin)] := (.cons implFractionOk_ok (.cons within_ok .nil))
  refine callOk_awp (ctx_ok eqOk hG) mixed (live := [true, true, true]) (dt := []) Tryz.func102 rfl (by kernel_rfl) (by kernel_rfl) fun w0 hlens => ?_
  simp (config := {contextual := true}) [Tryz.f102, List.range, List.range.loop, ints, intss, int, bool, row, frac, fracs, ← List.map_take, ← List.map_drop, mFracOk_at, mWithin_in, partB]
theorem all_allF {fs : List (Int × Int)} {p : Int × Int → Bool} : fs.all p = allR fs.length fun i => p (fs.getD i (0, 0)) := by
  unfold allR
  rw [Bool.eq_iff_iff]; simp only [List.all_eq_true, List.mem_range]
  constructor
  · intro h i hi
    have : fs.getD i (0, 0) = fs[i] := by simp [List.getD_eq_getElem?_getD, hi]
    rw [this]; exact h _ (List.getElem_mem _)
  · intro h x hx
    obtain ⟨i, hi, rfl⟩ := List.getElem_of_mem hx
    have := h i hi
    have e : fs.getD i (0, 0) = fs[i] := by simp [List.getD_eq_getElem?_getD, hi]
    rwa [e] at this
end Go.Proofs.YtkfmhpgnhkdebaaGreatDoor.Ax
namespace Go.Proofs.YtkfmhpgnhkdebaaGreatDoor.Ax
open Go Go.RowKit
set_option linter.unusedSimpArgs false
def mkF (t b : Int) : (Int × Int) × Bool := if fracOk (t.tdiv (Int.gcd t b), b.tdiv (Int.gcd t b)) = true then ((t.tdiv (Int.gcd t b), b.tdiv (Int.gcd t b)), true) else ((0, 0), false)
def redF (t b : Int) : (Int × Int) × Bool := if b < 0 then mkF (-t) (-b) else mkF t b
theorem tdiv_bd {x y m : Int} (h1 : -m ≤ x) (h2 : x ≤ m) : -m ≤ x.tdiv y ∧ x.tdiv y ≤ m := by
  have : (x.tdiv y).natAbs ≤ x.natAbs := by rw [Int.natAbs_tdiv]; exact Nat.div_le_self _ _
  omega
theorem gcd_bd {x y : Int} (h : y ≠ 0) : 0 < (Int.gcd x y : Int) ∧ (Int.gcd x y : Int) ≤ y.natAbs := by
  have h1 : 0 < Int.gcd x y := Int.gcd_pos_of_ne_zero_right _ h
  have h2 : Int.gcd x y ∣ y.natAbs := Nat.gcd_dvd_right _ _
  have := Nat.le_of_dvd (by omega) h2
  omega
noncomputable def mRed : List AV → Option AV := mk (fun p => -4611686018427387904 ≤ p.1 ∧ p.1 ≤ 4611686018427387904 ∧ -4611686018427387904 ≤ p.2 ∧ p.2 ≤ 4611686018427387904 ∧ p.2 ≠ 0) (fun (p : (Int) × (Int)) => [int p.1, int p.2]) (fun p => .tup [.agg [.v (.int .i64 (redF p.1 p.2).1.1), .v (.int .i64 (redF p.1 p.2).1.2)], .v (.bool (redF p.1 p.2).2)])
theorem mRed_at (t : Int) (b : Int) (hpre : -4611686018427387904 ≤ t ∧ t ≤ 4611686018427387904 ∧ -4611686018427387904 ≤ b ∧ b ≤ 4611686018427387904 ∧ b ≠ 0) : mRed [.v (.int .i64 t), .v (.int .i64 b)] = some (.tup [.agg [.v (.int .i64 (redF t b).1.1), .v (.int .i64 (redF t b).1.2)], .v (.bool (redF t b).2)]) :=
  mk_eq (enc := fun (p : (Int) × (Int)) => [int p.1, int p.2]) (x := (t, b)) (by rintro ⟨a0, a1⟩ ⟨b0, b1⟩ h; simp [ints, intss, int, bool, row, frac, fracs, map_int_inj, map_row_inj, frac_inj, map_frac_inj] at h; simp [h]) hpre
noncomputable def mMk : List AV → Option AV := mk (fun p => -4611686018427387904 ≤ p.1 ∧ p.1 ≤ 4611686018427387904 ∧ 0 < p.2 ∧ p.2 ≤ 4611686018427387904) (fun (p : (Int) × (Int)) => [int p.1, int p.2]) (fun p => .tup [.agg [.v (.int .i64 (mkF p.1 p.2).1.1), .v (.int .i64 (mkF p.1 p.2).1.2)], .v (.bool (mkF p.1 p.2).2)])
theorem mMk_at (t : Int) (b : Int) (hpre : -4611686018427387904 ≤ t ∧ t ≤ 4611686018427387904 ∧ 0 < b ∧ b ≤ 4611686018427387904) : mMk [.v (.int .i64 t), .v (.int .i64 b)] = some (.tup [.agg [.v (.int .i64 (mkF t b).1.1), .v (.int .i64 (mkF t b).1.2)], .v (.bool (mkF t b).2)]) :=
  mk_eq (enc := fun (p : (Int) × (Int)) => [int p.1, int p.2]) (x := (t, b)) (by rintro ⟨a0, a1⟩ ⟨b0, b1⟩ h; simp [ints, intss, int, bool, row, frac, fracs, map_int_inj, map_row_inj, frac_inj, map_frac_inj] at h; simp [h]) hpre
set_option maxHeartbeats 1000000 in
theorem reduced_ok : FnOk Tryz.prog 93 mRed := by
  refine mk_ok fun ⟨t, b⟩ ⟨h1, h2, h3, h4, h5⟩ => ?_
  simp only at h1 h2 h3 h4 h5
  obtain ⟨g1, g2⟩ := gcd_bd (x := t) h5
  have hg := mGcd_at (-4611686018427387904) t b h1 h2 h3 h4
  have hG : FnsOk Tryz.prog [(167, (mGcd (-4611686018427387904))), (111, mFracOk)] := (.cons gcd_ok (.cons implFractionOk_ok .nil))
  refine callOk_awp (ctx_ok eqOk hG) mixed (live := [true, true, false, false, true, true, true, true, false, false, false, false, true, false, false, false, false, false, false, false, false, false, false, false, true]) (dt := [(4, ⟨[], [0, 0, 0, 0, 0, 0, 0, 1], []⟩)]) Tryz.func93 rfl (by kernel_rfl) (by kernel_rfl) fun w0 hlens => ?_
  by_cases hb : b < 0
  · have hr : redF t b = mkF (-t) (-b) := by simp [redF, hb]
    have e1 : t.tdiv (-(Int.gcd t b : Int)) = (-t).tdiv (Int.gcd t b) := by rw [Int.tdiv_neg, Int.neg_tdiv]
    have e2 : b.tdiv (-(Int.gcd t b : Int)) = (-b).tdiv (Int.gcd t b) := by rw [Int.tdiv_neg, Int.neg_tdiv]
    have eg : Int.gcd (-t) (-b) = Int.gcd t b := by simp [Int.gcd]
    rw [hr]; unfold mkF; rw [eg]
    have w0 : IntKind.i64.wrap (-(Int.gcd t b : Int)) = -(Int.gcd t b : Int) := wrapI (by omega) (by omega)
    have w1 : IntKind.i64.wrap ((-t).tdiv (Int.gcd t b)) = (-t).tdiv (Int.gcd t b) := by have := tdiv_bd (x := -t) (y := Int.gcd t b) (m := 4611686018427387904) (by omega) (by omega); exact wrapI (by omega) (by omega)
    have w2 : IntKind.i64.wrap ((-b).tdiv (Int.gcd t b)) = (-b).tdiv (Int.gcd t b) := by have := tdiv_bd (x := -b) (y := Int.gcd t b) (m := 4611686018427387904) (by omega) (by omega); exact wrapI (by omega) (by omega)
    generalize (Int.gcd t b : Int) = g at *
    have hne : ¬ -g = 0 := by omega
    have hne' : ¬ g = 0 := by omega
    generalize (-t).tdiv g = p at *
    generalize (-b).tdiv g = q at *
    cases hf : fracOk (p, q) <;> simp (config := {contextual := true}) [Tryz.f93, List.range, List.range.loop, ints, intss, int, bool, row, frac, fracs, ← List.map_take, ← List.map_drop, hg, hb, w0, hne, hne', e1, e2, w1, w2, mFracOk_at, hf]
  · have hr : redF t b = mkF t b := by simp [redF, hb]
    rw [hr]; unfold mkF
    have w1 : IntKind.i64.wrap (t.tdiv (Int.gcd t b)) = t.tdiv (Int.gcd t b) := by have := tdiv_bd (x := t) (y := Int.gcd t b) (m := 4611686018427387904) (by omega) (by omega); exact wrapI (by omega) (by omega)
    have w2 : IntKind.i64.wrap (b.tdiv (Int.gcd t b)) = b.tdiv (Int.gcd t b) := by have := tdiv_bd (x := b) (y := Int.gcd t b) (m := 4611686018427387904) (by omega) (by omega); exact wrapI (by omega) (by omega)
    generalize (Int.gcd t b : Int) = g at *
    have hne' : ¬ g = 0 := by omega
    generalize hp1 : t.tdiv g = p at *
    generalize hq1 : b.tdiv g = q at *
    cases hf : fracOk (p, q) <;> simp (config := {contextual := true}) [Tryz.f93, List.range, List.range.loop, ints, intss, int, bool, row, frac, fracs, ← List.map_take, ← List.map_drop, hg, hb, hne', hp1, hq1, w1, w2, mFracOk_at, hf]
set_option maxHeartbeats 1000000 in
theorem l02Make_ok : FnOk Tryz.prog 232 mMk := by
  refine mk_ok fun ⟨t, b⟩ ⟨h1, h2, h3, h4⟩ => ?_
  simp only at h1 h2 h3 h4
  obtain ⟨g1, g2⟩ := gcd_bd (x := t) (show b ≠ 0 by omega)
  have hg := mGcd_at 0 (max t (-t)) b (by omega) (by omega) (by omega) h4
  rw [gcd_abs] at hg
  have wn : IntKind.i64.wrap (-t) = -t := wrapI (by omega) (by omega)
  have hG : FnsOk Tryz.prog [(175, (mGcd 0)), (97, mFracOk)] := (.cons l02Gcd_ok (.cons specFractionOk_ok .nil))
  refine callOk_awp (ctx_ok eqOk hG) mixed (live := [true, true, false, false, true, true, true, true, false, false, false, false, false, false, false, false, false, false, false, false, false, false, false, true]) (dt := [(2, ⟨[], [0, 0, 0, 0, 0, 0, 0, 1], []⟩)]) Tryz.func232 rfl (by kernel_rfl) (by kernel_rfl) fun w0 hlens => ?_
  unfold mkF
  have w1 : IntKind.i64.wrap (t.tdiv (Int.gcd t b)) = t.tdiv (Int.gcd t b) := by have := tdiv_bd (x := t) (y := Int.gcd t b) (m := 4611686018427387904) (by omega) (by omega); exact wrapI (by omega) (by omega)
  have w2 : IntKind.i64.wrap (b.tdiv (Int.gcd t b)) = b.tdiv (Int.gcd t b) := by have := tdiv_bd (x := b) (y := Int.gcd t b) (m := 4611686018427387904) (by omega) (by omega); exact wrapI (by omega) (by omega)
  generalize (Int.gcd t b : Int) = g at *
  have hne' : ¬ g = 0 := by omega
  generalize hp1 : t.tdiv g = p at *
  generalize hq1 : b.tdiv g = q at *
  cases hf : fracOk (p, q) <;> simp (config := {contextual := true}) [Tryz.f232, List.range, List.range.loop, ints, intss, int, bool, row, frac, fracs, ← List.map_take, ← List.map_drop, hg, wn, hne', hp1, hq1, w1, w2, mFracOk_at, hf]
noncomputable def mTwo : List AV → Option AV := mk (fun _ => True) (fun (p : (Int) × (Int) × (Int) × (Int)) => [frac (p.1, p.2.1), frac (p.2.2.1, p.2.2.2)]) (fun p => bool (fracOk (p.1, p.2.1) && fracOk (p.2.2.1, p.2.2.2)))
theorem mTwo_at (a : Int) (b : Int) (c : Int) (d : Int) : mTwo [.agg [.v (.int .i64 a), .v (.int .i64 b)], .agg [.v (.int .i64 c), .v (.int .i64 d)]] = some (.v (.bool (fracOk (a, b) && fracOk (c, d)))) :=
  mk_eq (enc := fun (p : (Int) × (Int) × (Int) × (Int)) => [frac (p.1, p.2.1), frac (p.2.2.1, p.2.2.2)]) (x := (a, b, c, d)) (by rintro ⟨a0, a1, a2, a3⟩ ⟨b0, b1, b2, b3⟩ h; simp [ints, intss, int, bool, row, frac, fracs, map_int_inj, map_row_inj, frac_inj, map_frac_inj] at h; simp [h]) trivial
theorem l02Two_ok : FnOk Tryz.prog 231 mTwo := by
  refine mk_ok fun ⟨a, b, c, d⟩ _ => ?_
  have hG : FnsOk Tryz.prog [(97, mFracOk)] := (.cons specFractionOk_ok .nil)
  refine callOk_awp (ctx_ok eqOk hG) mixed (live := [true, true, true, true, true]) (dt := []) Tryz.func231 rfl (by kernel_rfl) (by kernel_rfl) fun w0 hlens => ?_
  cases h1 : fracOk (a, b) <;> simp (config := {contextual := true}) [Tryz.f231, List.range, List.range.loop, ints, intss, int, bool, row, frac, fracs, ← List.map_take, ← List.map_drop, mFracOk_at, h1]
def addF (x y : Int × Int) : (Int × Int) × Bool := if fracOk x && fracOk y then mkF (x.1 * y.2 + y.1 * x.2) (x.2 * y.2) else ((0, 0), false)
noncomputable def mAdd : List AV → Option AV := mk (fun _ => True) (fun (p : (Int) × (Int) × (Int) × (Int)) => [frac (p.1, p.2.1), frac (p.2.2.1, p.2.2.2)]) (fun p => .tup [.agg [.v (.int .i64 (addF (p.1, p.2.1) (p.2.2.1, p.2.2.2)).1.1), .v (.int .i64 (addF (p.1, p.2.1) (p.2.2.1, p.2.2.2)).1.2)], .v (.bool (addF (p.1, p.2.1) (p.2.2.1, p.2.2.2)).2)])
theorem mAdd_at (a : Int) (b : Int) (c : Int) (d : Int) : mAdd [.agg [.v (.int .i64 a), .v (.int .i64 b)], .agg [.v (.int .i64 c), .v (.int .i64 d)]] = some (.tup [.agg [.v (.int .i64 (addF (a, b) (c, d)).1.1), .v (.int .i64 (addF (a, b) (c, d)).1.2)], .v (.bool (addF (a, b) (c, d)).2)]) :=
  mk_eq (enc := fun (p : (Int) × (Int) × (Int) × (Int)) => [frac (p.1, p.2.1), frac (p.2.2.1, p.2.2.2)]) (x := (a, b, c, d)) (by rintro ⟨a0, a1, a2, a3⟩ ⟨b0, b1, b2, b3⟩ h; simp [ints, intss, int, bool, row, frac, fracs, map_int_inj, map_row_inj, frac_inj, map_frac_inj] at h; simp [h]) trivial
theorem fracOk_bd {x : Int × Int} (h : fracOk x = true) : -1000000000 ≤ x.1 ∧ x.1 ≤ 1000000000 ∧ 1 ≤ x.2 ∧ x.2 ≤ 1000000000 := by
  simp only [fracOk, Bool.and_eq_true, decide_eq_true_eq] at h; omega
theorem mul_bd {x y m n : Int} (h1 : -m ≤ x) (h2 : x ≤ m) (h3 : -n ≤ y) (h4 : y ≤ n) : -(m * n) ≤ x * y ∧ x * y ≤ m * n := by
  have hx : (x.natAbs : Int) ≤ m := by omega
  have hy : (y.natAbs : Int) ≤ n := by omega
  have : (x * y).natAbs = x.natAbs * y.natAbs := Int.natAbs_mul _ _
  have h5 : (x.natAbs : Int) * y.natAbs ≤ m * n := Int.mul_le_mul hx hy (by omega) (by omega)
  have h6 : ((x * y).natAbs : Int) = (x.natAbs : Int) * y.natAbs := by rw [this]; simp
  omega
theorem mul_pos1 {x y : Int} (h1 : 1 ≤ x) (h2 : 1 ≤ y) : 0 < x * y := Int.mul_pos (by omega) (by omega)
set_option maxHeartbeats 2000000 in
theorem implAdd_ok : FnOk Tryz.prog 174 mAdd := by
  refine mk_ok fun ⟨a, b, c, d⟩ _ => ?_
  have hG : FnsOk Tryz.prog [(111, mFracOk), (93, mRed)] := (.cons implFractionOk_ok (.cons reduced_ok .nil))
  refine callOk_awp (ctx_ok eqOk hG) mixed (live := [true, true, true, true, true, true, false, false, false, false, false, false, false, true]) (dt := []) Tryz.func174 rfl (by kernel_rfl) (by kernel_rfl) fun w0 hlens => ?_
  cases h1 : fracOk (a, b) with
  | false => simp (config := {contextual := true}) [Tryz.f174, List.range, List.range.loop, ints, intss, int, bool, row, frac, fracs, ← List.map_take, ← List.map_drop, mFracOk_at, mTwo_at, h1, addF]
  | true =>
  cases h2 : fracOk (c, d) with
  | false => simp (config := {contextual := true}) [Tryz.f174, List.range, List.range.loop, ints, intss, int, bool, row, frac, fracs, ← List.map_take, ← List.map_drop, mFracOk_at, mTwo_at, h1, h2, addF]
  | true =>
  have b1 := fracOk_bd h1
  have b2 := fracOk_bd h2
  simp only at b1 b2
  have m1 := mul_bd (x := a) (y := d) (m := 1000000000) (n := 1000000000) (by omega) (by omega) (by omega) (by omega)
  have m2 := mul_bd (x := c) (y := b) (m := 1000000000) (n := 1000000000) (by omega) (by omega) (by omega) (by omega)
  have m3 := mul_bd (x := b) (y := d) (m := 1000000000) (n := 1000000000) (by omega) (by omega) (by omega) (by omega)
  have p3 := mul_pos1 (x := b) (y := d) (by omega) (by omega)
  have ha : addF (a, b) (c, d) = mkF (a * d + c * b) (b * d) := by simp [addF, h1, h2]
  rw [ha]
  have w1 : IntKind.i64.wrap (a * d) = a * d := wrapI (by omega) (by omega)
  have w2 : IntKind.i64.wrap (c * b) = c * b := wrapI (by omega) (by omega)
  have w3 : IntKind.i64.wrap (b * d) = b * d := wrapI (by omega) (by omega)
  have w4 : IntKind.i64.wrap (a * d + c * b) = a * d + c * b := wrapI (by omega) (by omega)
  have hz := mMk_at (a * d + c * b) (b * d) ⟨by omega, by omega, by omega, by omega⟩
  have hz2 := mRed_at (a * d + c * b) (b * d) ⟨by omega, by omega, by omega, by omega, by omega⟩
  have hrr : redF (a * d + c * b) (b * d) = mkF (a * d + c * b) (b * d) := by unfold redF; rw [if_neg (by omega)]
  rw [hrr] at hz2
  simp (config := {contextual := true}) [Tryz.f174, List.range, List.range.loop, ints, intss, int, bool, row, frac, fracs, ← List.map_take, ← List.map_drop, mFracOk_at, mTwo_at, h1, h2, w1, w2, w3, w4, hz, hz2]
set_option maxHeartbeats 2000000 in
theorem specAdd_ok : FnOk Tryz.prog 176 mAdd := by
  refine mk_ok fun ⟨a, b, c, d⟩ _ => ?_
  have hG : FnsOk Tryz.prog [(231, mTwo), (232, mMk)] := (.cons l02Two_ok (.cons l02Make_ok .nil))
  refine callOk_awp (ctx_ok eqOk hG) mixed (live := [true, true, true, true, true, true, false, false, false, true]) (dt := []) Tryz.func176 rfl (by kernel_rfl) (by kernel_rfl) fun w0 hlens => ?_
  cases h1 : fracOk (a, b) with
  | false => simp (config := {contextual := true}) [Tryz.f176, List.range, List.range.loop, ints, intss, int, bool, row, frac, fracs, ← List.map_take, ← List.map_drop, mFracOk_at, mTwo_at, h1, addF]
  | true =>
  cases h2 : fracOk (c, d) with
  | false => simp (config := {contextual := true}) [Tryz.f176, List.range, List.range.loop, ints, intss, int, bool, row, frac, fracs, ← List.map_take, ← List.map_drop, mFracOk_at, mTwo_at, h1, h2, addF]
  | true =>
  have b1 := fracOk_bd h1
  have b2 := fracOk_bd h2
  simp only at b1 b2
  have m1 := mul_bd (x := a) (y := d) (m := 1000000000) (n := 1000000000) (by omega) (by omega) (by omega) (by omega)
  have m2 := mul_bd (x := c) (y := b) (m := 1000000000) (n := 1000000000) (by omega) (by omega) (by omega) (by omega)
  have m3 := mul_bd (x := b) (y := d) (m := 1000000000) (n := 1000000000) (by omega) (by omega) (by omega) (by omega)
  have p3 := mul_pos1 (x := b) (y := d) (by omega) (by omega)
  have ha : addF (a, b) (c, d) = mkF (a * d + c * b) (b * d) := by simp [addF, h1, h2]
  rw [ha]
  have w1 : IntKind.i64.wrap (a * d) = a * d := wrapI (by omega) (by omega)
  have w2 : IntKind.i64.wrap (c * b) = c * b := wrapI (by omega) (by omega)
  have w3 : IntKind.i64.wrap (b * d) = b * d := wrapI (by omega) (by omega)
  have w4 : IntKind.i64.wrap (a * d + c * b) = a * d + c * b := wrapI (by omega) (by omega)
  have hz := mMk_at (a * d + c * b) (b * d) ⟨by omega, by omega, by omega, by omega⟩
  have hz2 := mRed_at (a * d + c * b) (b * d) ⟨by omega, by omega, by omega, by omega, by omega⟩
  have hrr : redF (a * d + c * b) (b * d) = mkF (a * d + c * b) (b * d) := by unfold redF; rw [if_neg (by omega)]
  rw [hrr] at hz2
  simp (config := {contextual := true}) [Tryz.f176, List.range, List.range.loop, ints, intss, int, bool, row, frac, fracs, ← List.map_take, ← List.map_drop, mFracOk_at, mTwo_at, h1, h2, w1, w2, w3, w4, hz, hz2]
theorem addF_ok {x y : Int × Int} (h : (addF x y).2 = false) : addF x y = ((0, 0), false) := by
  unfold addF mkF at h ⊢
  split
  · rename_i h1
    rw [if_pos h1] at h
    split
    · rename_i h2; rw [if_pos h2] at h; simp at h
    · rfl
  · rfl
def sumTo (fs : List (Int × Int)) : Nat → (Int × Int) × Bool
  | 0 => ((0, 1), true)
  | k + 1 => if (sumTo fs k).2 = true then addF (sumTo fs k).1 (fs.getD k (0, 0)) else ((0, 0), false)
def sumF (fs : List (Int × Int)) : (Int × Int) × Bool := if 100 < fs.length then ((0, 0), false) else sumTo fs fs.length
theorem sumTo_false {fs : List (Int × Int)} {k : Nat} (h : (sumTo fs k).2 = false) : ∀ n, k ≤ n → (sumTo fs n) = ((0, 0), false) ∨ (n = k ∧ (sumTo fs n).2 = false)
  | 0, hn => by
    have : k = 0 := by omega
    subst this; exact .inr ⟨rfl, h⟩
  | n + 1, hn => by
    by_cases e : k = n + 1
    · subst e; exact .inr ⟨rfl, h⟩
    · rcases sumTo_false h n (by omega) with h1 | ⟨_, h1⟩
      · left; rw [sumTo, h1]; simp
      · left; rw [sumTo, h1]; simp
theorem sumTo_bad {fs : List (Int × Int)} {k n : Nat} (hk : 0 < k) (h : (sumTo fs k).2 = false) (hn : k ≤ n) : sumTo fs n = ((0, 0), false) := by
  rcases sumTo_false h n hn with h1 | ⟨rfl, _⟩
  · exact h1
  · obtain ⟨m, rfl⟩ : ∃ m, n = m + 1 := ⟨n - 1, by omega⟩
    rw [sumTo] at h ⊢
    split
    · rename_i h1; rw [if_pos h1] at h; exact addF_ok h
    · rfl
noncomputable def mSumF : List AV → Option AV := mk (fun _ => True) (fun (p : (Bool) × (List (Int × Int))) => [fracs p.1 p.2]) (fun p => .tup [.agg [.v (.int .i64 (sumF p.2).1.1), .v (.int .i64 (sumF p.2).1.2)], .v (.bool (sumF p.2).2)])
theorem mSumF_at (nl : Bool) (fs : List (Int × Int)) : mSumF [.sl nl 2 (fs.map frac)] = some (.tup [.agg [.v (.int .i64 (sumF fs).1.1), .v (.int .i64 (sumF fs).1.2)], .v (.bool (sumF fs).2)]) :=
  mk_eq (enc := fun (p : (Bool) × (List (Int × Int))) => [fracs p.1 p.2]) (x := (nl, fs)) (by rintro ⟨a0, a1⟩ ⟨b0, b1⟩ h; simp [ints, intss, int, bool, row, frac, fracs, map_int_inj, map_row_inj, frac_inj, map_frac_inj] at h; simp [h]) trivial
set_option maxHeartbeats 2000000 in
theorem implSumF_ok : FnOk Tryz.prog 112 mSumF := by
  refine mk_ok fun ⟨nl, fs⟩ _ => ?_
  have hG : FnsOk Tryz.prog [(172, mWhole), (174, mAdd)] := (.cons whole_ok (.cons implAdd_ok .nil))
  refine callOk_awp (ctx_ok eqOk hG) mixed (live := [true, false, true, true, true, true, false, true, false, false, true, false, false, true, true, true, true, false, false, false, false, false, false, false, false, false, true]) (dt := []) Tryz.func112 rfl (by kernel_rfl) (by kernel_rfl) fun w0 hlens => ?_
  have hll : fs.length ≤ 9223372036854775807 := (lens_fracs.1 hlens.1).1
  clear hlens
  by_cases h1 : 100 < fs.length
  · have h1' : (100 : Int) < (fs.length : Int) := by omega
    simp (config := {contextual := true}) [Tryz.f112, List.range, List.range.loop, ints, intss, int, bool, row, frac, fracs, ← List.map_take, ← List.map_drop, h1, h1', sumF]
  have h1' : ¬ (100 : Int) < (fs.length : Int) := by omega
  have hs : sumF fs = sumTo fs fs.length := by simp [sumF, h1]
  rw [hs]
  generalize hr : sumTo fs fs.length = r
  simp (config := {contextual := true}) [Tryz.f112, List.range, List.range.loop, ints, intss, int, bool, row, frac, fracs, ← List.map_take, ← List.map_drop, h1, h1', mWhole_at]
  refine awp_range (live := [true, false, true, true, true, true, false, true, false, false, true, false, false, true, true, true, true, false, false, false, false, false, false, false, false, false, true]) (ctx_ok eqOk hG) mixed [false, false, true, false, true, false, false, false, false, false, false, false, false, true, true, true] (fs.length) (fun k => (sumTo fs k).2 = true) (fun k => ⟨[.junk, .junk, .ptr 0 [] 0 0, .junk, .ptr 1 [] 0 0, .junk, .junk, .junk, .junk, .junk, .junk, .junk, .junk, fracs nl fs, int fs.length, int k, .junk, .junk, .junk, .junk, .junk, .junk, .junk, .junk, .junk, .junk, .junk, .junk, .junk, .junk], [⟨true, .sl false 2 [frac (0, 0)]⟩, ⟨true, .sl false 2 [frac (sumTo fs k).1]⟩]⟩) ?_ (by simp [sub, slotsLe, clean, keep, refsL, refs, once, place, renL, ren, List.replicate, int, bool, fracs, frac, sumTo]) ?_ ?_ ?_
  · exact hll
  · rfl
  · intro k h hp hwk
    have e : sumTo fs (k + 1) = addF (sumTo fs k).1 fs[k] := by rw [sumTo, if_pos hp]; congr 1; simp [List.getD_eq_getElem?_getD, h]
    have hbad : (sumTo fs (k + 1)).2 = false → r = ((0, 0), false) := fun hb => by rw [← hr]; exact sumTo_bad (by omega) hb (by omega)
    generalize sumTo fs k = x at *
    generalize sumTo fs (k + 1) = y at *
    obtain ⟨⟨x1, x2⟩, xb⟩ := x
    obtain ⟨⟨y1, y2⟩, yb⟩ := y
    have ha := mAdd_at x1 x2 fs[k].1 fs[k].2
    rw [show ((fs[k].1, fs[k].2) : Int × Int) = fs[k] from rfl] at ha
    simp only at e
    rw [← e] at ha
    simp only at ha hbad
    cases yb with
    | true =>
      simp (config := {contextual := true}) [List.range, List.range.loop, ints, intss, int, bool, row, frac, fracs, ← List.map_take, ← List.map_drop, h, hwk, ha]
    | false =>
      rw [hbad rfl]
      simp (config := {contextual := true}) [List.range, List.range.loop, ints, intss, int, bool, row, frac, fracs, ← List.map_take, ← List.map_drop, h, hwk, ha]
  · intro hp
    rw [hr] at hp
    obtain ⟨⟨r1, r2⟩, rb⟩ := r
    simp only at hp
    subst hp
    simp (config := {contextual := true}) [List.range, List.range.loop, ints, intss, int, bool, row, frac, fracs, ← List.map_take, ← List.map_drop, hr]
set_option maxHeartbeats 2000000 in
theorem specSumF_ok : FnOk Tryz.prog 98 mSumF := by
  refine mk_ok fun ⟨nl, fs⟩ _ => ?_
  have hG : FnsOk Tryz.prog [(176, mAdd)] := (.cons specAdd_ok .nil)
  refine callOk_awp (ctx_ok eqOk hG) mixed (live := [true, false, true, true, true, false, true, true, true, false, false, true, false, false, true, true, true, true, false, false, false, false, false, false, false, false, false, true]) (dt := []) Tryz.func98 rfl (by kernel_rfl) (by kernel_rfl) fun w0 hlens => ?_
  have hll : fs.length ≤ 9223372036854775807 := (lens_fracs.1 hlens.1).1
  clear hlens
  by_cases h1 : 100 < fs.length
  · have h1' : (100 : Int) < (fs.length : Int) := by omega
    simp (config := {contextual := true}) [Tryz.f98, List.range, List.range.loop, ints, intss, int, bool, row, frac, fracs, ← List.map_take, ← List.map_drop, h1, h1', sumF]
  have h1' : ¬ (100 : Int) < (fs.length : Int) := by omega
  have hs : sumF fs = sumTo fs fs.length := by simp [sumF, h1]
  rw [hs]
  generalize hr : sumTo fs fs.length = r
  simp (config := {contextual := true}) [Tryz.f98, List.range, List.range.loop, ints, intss, int, bool, row, frac, fracs, ← List.map_take, ← List.map_drop, h1, h1', mWhole_at]
  refine awp_range (live := [true, false, true, true, true, false, true, true, true, false, false, true, false, false, true, true, true, true, false, false, false, false, false, false, false, false, false, true]) (ctx_ok eqOk hG) mixed [false, false, true, false, true, false, false, false, false, false, false, false, false, false, true, true, true] (fs.length) (fun k => (sumTo fs k).2 = true) (fun k => ⟨[.junk, .junk, .ptr 0 [] 0 0, .junk, .ptr 1 [] 0 0, .junk, .junk, .junk, .junk, .junk, .junk, .junk, .junk, .junk, fracs nl fs, int fs.length, int k, .junk, .junk, .junk, .junk, .junk, .junk, .junk, .junk, .junk, .junk, .junk, .junk, .junk, .junk, .junk], [⟨true, .sl false 2 [frac (0, 0)]⟩, ⟨true, .sl false 2 [frac (sumTo fs k).1]⟩]⟩) ?_ (by simp [sub, slotsLe, clean, keep, refsL, refs, once, place, renL, ren, List.replicate, int, bool, fracs, frac, sumTo]) ?_ ?_ ?_
  · exact hll
  · rfl
  · intro k h hp hwk
    have e : sumTo fs (k + 1) = addF (sumTo fs k).1 fs[k] := by rw [sumTo, if_pos hp]; congr 1; simp [List.getD_eq_getElem?_getD, h]
    have hbad : (sumTo fs (k + 1)).2 = false → r = ((0, 0), false) := fun hb => by rw [← hr]; exact sumTo_bad (by omega) hb (by omega)
    generalize sumTo fs k = x at *
    generalize sumTo fs (k + 1) = y at *
    obtain ⟨⟨x1, x2⟩, xb⟩ := x
    obtain ⟨⟨y1, y2⟩, yb⟩ := y
    have ha := mAdd_at x1 x2 fs[k].1 fs[k].2
    rw [show ((fs[k].1, fs[k].2) : Int × Int) = fs[k] from rfl] at ha
    simp only at e
    rw [← e] at ha
    simp only at ha hbad
    cases yb with
    | true =>
      simp (config := {contextual := true}) [List.range, List.range.loop, ints, intss, int, bool, row, frac, fracs, ← List.map_take, ← List.map_drop, h, hwk, ha]
    | false =>
      rw [hbad rfl]
      simp (config := {contextual := true}) [List.range, List.range.loop, ints, intss, int, bool, row, frac, fracs, ← List.map_take, ← List.map_drop, h, hwk, ha]
  · intro hp
    rw [hr] at hp
    obtain ⟨⟨r1, r2⟩, rb⟩ := r
    simp only at hp
    subst hp
    simp (config := {contextual := true}) [List.range, List.range.loop, ints, intss, int, bool, row, frac, fracs, ← List.map_take, ← List.map_drop, hr]
end Go.Proofs.YtkfmhpgnhkdebaaGreatDoor.Ax
