/-
  Plain laws on fractions: parts of 1, differences, products, the points of an heir. No condition.
-/
import Derived.Test.YtkfmhpgnhkdebaaGreatDoorCG1
import Derived.Test.YtkfmhpgnhkdebaaGreatDoorCB2
namespace Go.Proofs.YtkfmhpgnhkdebaaGreatDoor.Ax
open Go Go.RowKit
set_option linter.unusedSimpArgs false
theorem fracOk_neg {t b : Int} : fracOk (-t, b) = fracOk (t, b) := by
  rw [Bool.eq_iff_iff]
  simp only [fracOk, Bool.and_eq_true, decide_eq_true_eq, Int.neg_gcd]
  constructor <;> rintro ⟨⟨⟨h1, h2⟩, h3⟩, h4⟩ <;> exact ⟨⟨⟨by omega, by omega⟩, h3⟩, h4⟩
def subF (x y : Int × Int) : (Int × Int) × Bool := addF x (-y.1, y.2)
def cmpF (x y : Int × Int) : Int := if fracOk x && fracOk y then (if x.1 * y.2 < y.1 * x.2 then -1 else if y.1 * x.2 < x.1 * y.2 then 1 else 0) else -2
end Go.Proofs.YtkfmhpgnhkdebaaGreatDoor.Ax
namespace Go.Proofs.YtkfmhpgnhkdebaaGreatDoor.Ax
open Go Go.RowKit
set_option linter.unusedSimpArgs false
noncomputable def mMinus : List AV → Option AV := mk (fun p => fracOk (p.2.2.1, p.2.2.2) = true) (fun (p : (Int) × (Int) × (Int) × (Int)) => [frac (p.1, p.2.1), frac (p.2.2.1, p.2.2.2)]) (fun p => .tup [.agg [.v (.int .i64 (subF (p.1, p.2.1) (p.2.2.1, p.2.2.2)).1.1), .v (.int .i64 (subF (p.1, p.2.1) (p.2.2.1, p.2.2.2)).1.2)], .v (.bool (subF (p.1, p.2.1) (p.2.2.1, p.2.2.2)).2)])
theorem mMinus_at (a : Int) (b : Int) (c : Int) (d : Int) (hpre : fracOk (c, d) = true) : mMinus [.agg [.v (.int .i64 a), .v (.int .i64 b)], .agg [.v (.int .i64 c), .v (.int .i64 d)]] = some (.tup [.agg [.v (.int .i64 (subF (a, b) (c, d)).1.1), .v (.int .i64 (subF (a, b) (c, d)).1.2)], .v (.bool (subF (a, b) (c, d)).2)]) :=
  mk_eq (enc := fun (p : (Int) × (Int) × (Int) × (Int)) => [frac (p.1, p.2.1), frac (p.2.2.1, p.2.2.2)]) (x := (a, b, c, d)) (by rintro ⟨a0, a1, a2, a3⟩ ⟨b0, b1, b2, b3⟩ h; simp [ints, intss, int, bool, row, frac, fracs, map_int_inj, map_row_inj, frac_inj, map_frac_inj] at h; simp [h]) hpre
theorem minus_ok : FnOk Tryz.prog 109 mMinus := by
  refine mk_ok fun ⟨a, b, c, d⟩ h => ?_
  have hb := fracOk_bd h
  simp only at hb
  have w1 : IntKind.i64.wrap (-c) = -c := wrapI (by omega) (by omega)
  have hG : FnsOk Tryz.prog [(174, mAdd)] := (.cons implAdd_ok .nil)
  refine callOk_awp (ctx_ok eqOk hG) mixed (live := [true, true, true, true, true, true]) (dt := []) Tryz.func109 rfl (by kernel_rfl) (by kernel_rfl) fun w0 hlens => ?_
  simp (config := {contextual := true}) [Tryz.f109, List.range, List.range.loop, ints, intss, int, bool, row, frac, fracs, ← List.map_take, ← List.map_drop, mAdd_at, subF, w1]
end Go.Proofs.YtkfmhpgnhkdebaaGreatDoor.Ax
namespace Go.Proofs.YtkfmhpgnhkdebaaGreatDoor.Ax
open Go Go.RowKit
set_option linter.unusedSimpArgs false
def awTo (xss : List (Bool × List Int)) (aw : List Int) : Nat → Int
  | 0 => 0
  | k + 1 => if 0 ≤ aw.getD k 0 then IntKind.i64.wrap (awTo xss aw k + ent xss k (aw.getD k 0)) else awTo xss aw k
end Go.Proofs.YtkfmhpgnhkdebaaGreatDoor.Ax
namespace Go.Proofs.YtkfmhpgnhkdebaaGreatDoor.Ax
open Go Go.RowKit
set_option linter.unusedSimpArgs false
def woTo (xss : List (Bool × List Int)) (l : List Int) (i : Nat) (k : Int) : Nat → Int
  | 0 => 0
  | m + 1 => if l.getD m 0 = k then IntKind.i64.wrap (woTo xss l i k m + ent xss i m) else woTo xss l i k m
def wo (xss : List (Bool × List Int)) (l : List Int) (i : Nat) (k : Int) : Int := woTo xss l i k l.length
end Go.Proofs.YtkfmhpgnhkdebaaGreatDoor.Ax
namespace Go.Proofs.YtkfmhpgnhkdebaaGreatDoor.Ax
open Go Go.RowKit
set_option linter.unusedSimpArgs false
end Go.Proofs.YtkfmhpgnhkdebaaGreatDoor.Ax
namespace Go.Proofs.YtkfmhpgnhkdebaaGreatDoor.Ax
open Go Go.RowKit
set_option linter.unusedSimpArgs false
def rankAt (m : Int) (l : List Int) (k : Nat) : Bool := inR 0 (m - 1) (l.getD k 0) && !decide (0 ≤ pos (l.take k) (l.getD k 0))
def rankB (m : Int) (l : List Int) : Bool := inR 1 5 m && decide (l.length = m) && allR l.length (rankAt m l)
noncomputable def mRank : List AV → Option AV := mk (fun _ => True) (fun (p : (Int) × (Bool) × (List Int)) => [int p.1, ints p.2.1 p.2.2]) (fun p => bool (rankB p.1 p.2.2))
theorem mRank_at (m : Int) (nl : Bool) (l : List Int) : mRank [.v (.int .i64 m), .sl nl 1 (l.map int)] = some (.v (.bool (rankB m l))) :=
  mk_eq (enc := fun (p : (Int) × (Bool) × (List Int)) => [int p.1, ints p.2.1 p.2.2]) (x := (m, nl, l)) (by rintro ⟨a0, a1, a2⟩ ⟨b0, b1, b2⟩ h; simp [ints, intss, int, bool, row, frac, fracs, map_int_inj, map_row_inj, frac_inj, map_frac_inj] at h; simp [h]) trivial
theorem rankAt_at {m : Int} {l : List Int} {k : Nat} (h : k < l.length) : rankAt m l k = (inR 0 (m - 1) l[k] && !decide (0 ≤ pos (l.take k) l[k])) := by unfold rankAt; rw [getD_at h]
set_option maxHeartbeats 2000000 in
theorem implRankingOk_ok : FnOk Tryz.prog 110 mRank := by
  refine mk_ok fun ⟨m, nl, l⟩ _ => ?_
  have hG : FnsOk Tryz.prog [(99, mWithin), (181, mHas)] := (.cons within_ok (.cons slicesContains_ok .nil))
  refine callOk_awp (ctx_ok eqOk hG) mixed (live := [true, true, false, false, true, true, true, false, false, false, false, false, false, false, false, true, true, true, true, true, false, false, false, false, false, false, false, false, false, false, false, false, false, false, true]) (dt := []) Tryz.func110 rfl (by kernel_rfl) (by kernel_rfl) fun w0 hlens => ?_
  clear hlens
  cases h1 : inR 1 5 m with
  | false => simp (config := {contextual := true}) [Tryz.f110, List.range, List.range.loop, ints, intss, int, bool, row, frac, fracs, ← List.map_take, ← List.map_drop, mWithin_in, h1, rankB]
  | true =>
  have hm := h1
  simp only [inR, Bool.and_eq_true, decide_eq_true_eq] at hm
  by_cases h2 : (l.length : Int) = m
  rotate_left
  · have h2' : ((l.length : Int) != m) = true := by simpa using h2
    simp (config := {contextual := true}) [Tryz.f110, List.range, List.range.loop, ints, intss, int, bool, row, frac, fracs, ← List.map_take, ← List.map_drop, mWithin_in, h1, h2, h2', rankB]
  subst h2
  have hw0 : IntKind.i64.wrap ((l.length : Int) - 1) = (l.length : Int) - 1 := wrapI (by omega) (by omega)
  have hr : rankB l.length l = allR l.length (rankAt l.length l) := by simp [rankB, h1]
  generalize hres : rankB l.length l = r at hr
  simp (config := {contextual := true}) [Tryz.f110, List.range, List.range.loop, ints, intss, int, bool, row, frac, fracs, ← List.map_take, ← List.map_drop, mWithin_in, h1]
  refine awp_range (live := [true, true, false, false, true, true, true, false, false, false, false, false, false, false, false, true, true, true, true, true, false, false, false, false, false, false, false, false, false, false, false, false, false, false, true]) (ctx_ok eqOk hG) mixed [true, true, false, false, false, false, false, false, false, false, false, false, false, false, false, false, true, true, true] (l.length) (fun k => upto (rankAt l.length l) k) (fun k => ⟨[int l.length, ints nl l, .junk, .junk, .junk, .junk, .junk, .junk, .junk, .junk, .junk, .junk, .junk, .junk, .junk, .junk, ints nl l, int l.length, int k, .junk, .junk, .junk, .junk, .junk, .junk, .junk, .junk, .junk, .junk, .junk, .junk, .junk, .junk, .junk, .junk, .junk], []⟩) ?_ (by simp [sub, slotsLe, clean, keep, refsL, refs, once, place, renL, ren, List.replicate, int, bool, ints]) ?_ ?_ ?_
  · omega
  · exact upto_zero
  · intro k h hp hwk
    have hf : rankAt l.length l k = false → r = false := fun hf => by rw [hr]; exact allR_no h hf
    have ht := upto_succ hp
    clear hp
    have e := rankAt_at (m := l.length) h
    generalize rankAt l.length l = f at *
    generalize hi : inR 0 ((l.length : Int) - 1) l[k] = ii at e
    rw [e] at hf ht
    simp at hf ht
    simp (config := {contextual := true}) [List.range, List.range.loop, ints, intss, int, bool, row, frac, fracs, ← List.map_take, ← List.map_drop, h, hwk, hw0, mWithin_in, mHas_at, hi, Nat.le_of_lt h]
    grind
  · intro hp
    rw [allR_yes hp] at hr
    subst hr
    simp (config := {contextual := true}) [List.range, List.range.loop, ints, intss, int, bool, row, frac, fracs, ← List.map_take, ← List.map_drop]
end Go.Proofs.YtkfmhpgnhkdebaaGreatDoor.Ax
namespace Go.Proofs.YtkfmhpgnhkdebaaGreatDoor.Ax
open Go Go.RowKit
set_option linter.unusedSimpArgs false
def cmpI (x y : Int) : Int := if x < y then -1 else if y < x then 1 else 0
noncomputable def mCmpI : List AV → Option AV := mk (fun _ => True) (fun (p : (Int) × (Int)) => [int p.1, int p.2]) (fun p => int (cmpI p.1 p.2))
theorem mCmpI_at (x : Int) (y : Int) : mCmpI [.v (.int .i64 x), .v (.int .i64 y)] = some (.v (.int .i64 (cmpI x y))) :=
  mk_eq (enc := fun (p : (Int) × (Int)) => [int p.1, int p.2]) (x := (x, y)) (by rintro ⟨a0, a1⟩ ⟨b0, b1⟩ h; simp [ints, intss, int, bool, row, frac, fracs, map_int_inj, map_row_inj, frac_inj, map_frac_inj] at h; simp [h]) trivial
noncomputable def mNaN : List AV → Option AV := mk (fun _ => True) (fun (p : (Int)) => [int p]) (fun _ => bool false)
theorem mNaN_at (x : Int) : mNaN [.v (.int .i64 x)] = some (.v (.bool false)) :=
  mk_eq (enc := fun (p : (Int)) => [int p]) (x := (x)) (by rintro a0 b0 h; simp [ints, intss, int, bool, row, frac, fracs, map_int_inj, map_row_inj, frac_inj, map_frac_inj] at h; simp [h]) trivial
theorem isNaN_ok : FnOk Tryz.prog 266 mNaN := by
  refine mk_ok fun x _ => ?_
  have hG : FnsOk Tryz.prog [] := .nil
  refine callOk_awp (ctx_ok eqOk hG) mixed (live := [true, false, true]) (dt := []) Tryz.func266 rfl (by kernel_rfl) (by kernel_rfl) fun w0 hlens => ?_
  simp [Tryz.f266, List.range, List.range.loop, ints, intss, int, bool, row, frac, fracs, ← List.map_take, ← List.map_drop]
set_option maxHeartbeats 1000000 in
theorem cmpCompare_ok : FnOk Tryz.prog 235 mCmpI := by
  refine mk_ok fun ⟨x, y⟩ _ => ?_
  have hG : FnsOk Tryz.prog [(266, mNaN)] := (.cons isNaN_ok .nil)
  refine callOk_awp (ctx_ok eqOk hG) mixed (live := [true, true, false, false, true, true, true, false, false, false, false, true, true, true, false, false, true, false, false, true]) (dt := []) Tryz.func235 rfl (by kernel_rfl) (by kernel_rfl) fun w0 hlens => ?_
  by_cases h1 : x < y
  · simp [Tryz.f235, List.range, List.range.loop, ints, intss, int, bool, row, frac, fracs, ← List.map_take, ← List.map_drop, mNaN_at, h1, cmpI]
  · by_cases h2 : y < x <;> simp [Tryz.f235, List.range, List.range.loop, ints, intss, int, bool, row, frac, fracs, ← List.map_take, ← List.map_drop, mNaN_at, h1, h2, cmpI]
noncomputable def mCmpF : List AV → Option AV := mk (fun _ => True) (fun (p : (Int) × (Int) × (Int) × (Int)) => [frac (p.1, p.2.1), frac (p.2.2.1, p.2.2.2)]) (fun p => int (cmpF (p.1, p.2.1) (p.2.2.1, p.2.2.2)))
theorem mCmpF_at (a : Int) (b : Int) (c : Int) (d : Int) : mCmpF [.agg [.v (.int .i64 a), .v (.int .i64 b)], .agg [.v (.int .i64 c), .v (.int .i64 d)]] = some (.v (.int .i64 (cmpF (a, b) (c, d)))) :=
  mk_eq (enc := fun (p : (Int) × (Int) × (Int) × (Int)) => [frac (p.1, p.2.1), frac (p.2.2.1, p.2.2.2)]) (x := (a, b, c, d)) (by rintro ⟨a0, a1, a2, a3⟩ ⟨b0, b1, b2, b3⟩ h; simp [ints, intss, int, bool, row, frac, fracs, map_int_inj, map_row_inj, frac_inj, map_frac_inj] at h; simp [h]) trivial
set_option maxHeartbeats 2000000 in
theorem implCmpF_ok : FnOk Tryz.prog 182 mCmpF := by
  refine mk_ok fun ⟨a, b, c, d⟩ _ => ?_
  have hG : FnsOk Tryz.prog [(111, mFracOk), (235, mCmpI)] := (.cons implFractionOk_ok (.cons cmpCompare_ok .nil))
  refine callOk_awp (ctx_ok eqOk hG) mixed (live := [true, true, true, true, true, false, false, false, false, false, false, false, true]) (dt := []) Tryz.func182 rfl (by kernel_rfl) (by kernel_rfl) fun w0 hlens => ?_
  cases h1 : fracOk (a, b) with
  | false => simp (config := {contextual := true}) [Tryz.f182, List.range, List.range.loop, ints, intss, int, bool, row, frac, fracs, ← List.map_take, ← List.map_drop, mFracOk_at, mTwo_at, h1, cmpF]
  | true =>
  cases h2 : fracOk (c, d) with
  | false => simp (config := {contextual := true}) [Tryz.f182, List.range, List.range.loop, ints, intss, int, bool, row, frac, fracs, ← List.map_take, ← List.map_drop, mFracOk_at, mTwo_at, h1, h2, cmpF]
  | true =>
  have b1 := fracOk_bd h1
  have b2 := fracOk_bd h2
  simp only at b1 b2
  have m1 := mul_bd (x := a) (y := d) (m := 1000000000) (n := 1000000000) (by omega) (by omega) (by omega) (by omega)
  have m2 := mul_bd (x := c) (y := b) (m := 1000000000) (n := 1000000000) (by omega) (by omega) (by omega) (by omega)
  have w1 : IntKind.i64.wrap (a * d) = a * d := wrapI (by omega) (by omega)
  have w2 : IntKind.i64.wrap (c * b) = c * b := wrapI (by omega) (by omega)
  have e : cmpF (a, b) (c, d) = cmpI (a * d) (c * b) := by simp [cmpF, h1, h2, cmpI]
  rw [e]
  by_cases h3 : a * d < c * b
  · simp (config := {contextual := true}) [Tryz.f182, List.range, List.range.loop, ints, intss, int, bool, row, frac, fracs, ← List.map_take, ← List.map_drop, mFracOk_at, mTwo_at, mCmpI_at, h1, h2, w1, w2, cmpI, h3]
  · by_cases h4 : c * b < a * d <;> simp (config := {contextual := true}) [Tryz.f182, List.range, List.range.loop, ints, intss, int, bool, row, frac, fracs, ← List.map_take, ← List.map_drop, mFracOk_at, mTwo_at, mCmpI_at, h1, h2, w1, w2, cmpI, h3, h4]
noncomputable def mLessF : List AV → Option AV := mk (fun _ => True) (fun (p : (Int) × (Int) × (Int) × (Int)) => [frac (p.1, p.2.1), frac (p.2.2.1, p.2.2.2)]) (fun p => bool (decide (cmpF (p.1, p.2.1) (p.2.2.1, p.2.2.2) = -1)))
theorem mLessF_at (a : Int) (b : Int) (c : Int) (d : Int) : mLessF [.agg [.v (.int .i64 a), .v (.int .i64 b)], .agg [.v (.int .i64 c), .v (.int .i64 d)]] = some (.v (.bool (decide (cmpF (a, b) (c, d) = -1)))) :=
  mk_eq (enc := fun (p : (Int) × (Int) × (Int) × (Int)) => [frac (p.1, p.2.1), frac (p.2.2.1, p.2.2.2)]) (x := (a, b, c, d)) (by rintro ⟨a0, a1, a2, a3⟩ ⟨b0, b1, b2, b3⟩ h; simp [ints, intss, int, bool, row, frac, fracs, map_int_inj, map_row_inj, frac_inj, map_frac_inj] at h; simp [h]) trivial
set_option maxHeartbeats 1000000 in
theorem less_ok : FnOk Tryz.prog 113 mLessF := by
  refine mk_ok fun ⟨a, b, c, d⟩ _ => ?_
  have hG : FnsOk Tryz.prog [(182, mCmpF)] := (.cons implCmpF_ok .nil)
  refine callOk_awp (ctx_ok eqOk hG) mixed (live := [true, true, true, true, true]) (dt := []) Tryz.func113 rfl (by kernel_rfl) (by kernel_rfl) fun w0 hlens => ?_
  generalize hz : cmpF (a, b) (c, d) = z
  have e : (z == -1) = decide (z = -1) := by rw [Bool.eq_iff_iff]; simp
  simp (config := {contextual := true}) [Tryz.f113, List.range, List.range.loop, ints, intss, int, bool, row, frac, fracs, ← List.map_take, ← List.map_drop, mCmpF_at, hz, e]
theorem cmpF_neg {x y : Int × Int} (hx : fracOk x = true) (hy : fracOk y = true) : cmpF x y < 0 ↔ cmpF x y = -1 := by
  unfold cmpF; rw [hx, hy]
  simp only [Bool.and_true, if_true]
  split
  · simp
  · split <;> simp
theorem nodup_le : ∀ {L M : List Nat}, L.Nodup → (∀ x ∈ L, x ∈ M) → L.length ≤ M.length
  | [], _, _, _ => by simp
  | x :: L, M, h, hs => by
    rw [List.nodup_cons] at h
    have hx := hs x (by simp)
    have := nodup_le (L := L) (M := M.erase x) h.2 fun y hy => (List.mem_erase_of_ne (fun (e : y = x) => h.1 (by rw [← e]; exact hy))).2 (hs y (by simp [hy]))
    rw [List.length_erase_of_mem hx] at this
    have hp := List.length_pos_of_mem hx
    simp only [List.length_cons]; omega
theorem posFrom_iff {v : Int} : ∀ {xs : List Int} {k : Nat}, 0 ≤ posFrom v xs k ↔ v ∈ xs
  | [], k => by simp [posFrom]
  | x :: xs, k => by
    rw [posFrom]
    by_cases e : x = v
    · rw [if_pos e]; subst e; simp
    · rw [if_neg e, posFrom_iff, List.mem_cons]; exact ⟨.inr, fun h => h.resolve_left fun e' => e e'.symm⟩
theorem pos_iff {v : Int} {xs : List Int} : 0 ≤ pos xs v ↔ v ∈ xs := posFrom_iff
theorem rank_facts {m : Int} {l : List Int} (h : rankB m l = true) : 1 ≤ m ∧ m ≤ 5 ∧ (l.length : Int) = m ∧ (∀ i (hi : i < l.length), 0 ≤ l[i] ∧ l[i] < m) ∧ l.Nodup := by
  simp only [rankB, Bool.and_eq_true, decide_eq_true_eq, inR] at h
  obtain ⟨⟨⟨h1, h2⟩, h3⟩, h4⟩ := h
  have hat : ∀ i (hi : i < l.length), (0 ≤ l[i] ∧ l[i] < m) ∧ l[i] ∉ l.take i := fun i hi => by
    have := List.all_eq_true.1 h4 i (by simpa using hi)
    rw [rankAt_at hi] at this
    simp only [Bool.and_eq_true, inR, decide_eq_true_eq, Bool.not_eq_true', decide_eq_false_iff_not, pos_iff] at this
    exact ⟨⟨this.1.1, by omega⟩, this.2⟩
  refine ⟨h1, h2, h3, fun i hi => (hat i hi).1, ?_⟩
  rw [List.nodup_iff_pairwise_ne, List.pairwise_iff_getElem]
  intro i j hi hj hij e
  exact (hat j hj).2 (List.mem_iff_getElem.2 ⟨i, by simp; omega, by rw [List.getElem_take]; exact e⟩)
theorem rank_all {m : Int} {l : List Int} (h : rankB m l = true) {i : Nat} (hi : (i : Int) < m) : ∃ k, ∃ hk : k < l.length, l[k] = i := by
  obtain ⟨h1, h2, h3, h4, h5⟩ := rank_facts h
  apply Classical.byContradiction
  intro hno
  have hin : ∀ x ∈ l, 0 ≤ x ∧ x < m := fun x hx => by
    obtain ⟨j, hj, rfl⟩ := List.getElem_of_mem hx; exact h4 j hj
  have hni : (i : Int) ∉ l := fun hx => by
    obtain ⟨j, hj, e⟩ := List.getElem_of_mem hx; exact hno ⟨j, hj, e⟩
  have hnd : (i :: l.map Int.toNat).Nodup := by
    rw [List.nodup_cons]
    refine ⟨fun hx => ?_, ?_⟩
    · obtain ⟨x, hx, e⟩ := List.mem_map.1 hx
      have := hin x hx
      exact hni (by rw [← e, Int.toNat_of_nonneg this.1]; exact hx)
    · rw [List.nodup_iff_pairwise_ne, List.pairwise_map]
      rw [List.nodup_iff_pairwise_ne] at h5
      refine List.Pairwise.imp_of_mem (fun {a b} ha hb hab e => hab ?_) h5
      have := hin a ha; have := hin b hb; omega
  have := nodup_le (M := List.range l.length) hnd fun x hx => by
    rw [List.mem_range]
    rcases List.mem_cons.1 hx with rfl | hx
    · omega
    · obtain ⟨y, hy, rfl⟩ := List.mem_map.1 hx
      have := hin y hy; omega
  simp at this
  omega
end Go.Proofs.YtkfmhpgnhkdebaaGreatDoor.Ax
