/-
  Contracts of the two PointsOk. No condition.
-/
import Derived.Test.YtiieikknhheffaaDoorCB1
namespace Go.Proofs.YtiieikknhheffaaDoor.Ax
open Go Go.RowKit
set_option linter.unusedSimpArgs false

set_option maxHeartbeats 400000 in
theorem l13Sum_ok : FnOk Tryd.prog 19 mSum := by
  refine mk_ok fun ⟨nl, xs⟩ _ => ?_
  refine callOk_awp (ctx_ok eqOk .nil) mixed (live := [true, false, true, true, false, true, true, true, true, true]) (dt := []) Tryd.func19 rfl (by kernel_rfl) (by kernel_rfl) fun w0 hlens => ?_
  have hpre : xs.length ≤ 9223372036854775807 := (lens_ints.1 hlens.1).1
  simp [Tryd.f19, List.range, List.range.loop, ints]
  refine awp_loop_of (ctx_ok eqOk .nil) mixed (live := [true, false, true, true, false, true, true, true, true, true]) [false, false, false, true, false, false, true, true, true] (α := {k : Nat // k ≤ xs.length})
    (fun k => ⟨[.junk, .junk, .junk, int (sumW (xs.take k.1)), .junk, .junk, ints nl xs, int xs.length, int k.1, .junk, .junk, .junk, .junk, .junk, .junk, .junk, .junk], []⟩) (fun k => xs.length - k.1) ⟨0, by omega⟩ (by simp [sub, slotsLe, clean, keep, refsL, refs, once, place, renL, ren, List.replicate, int, bool, ints, sumW]) ?_
  rintro ⟨k, hk⟩
  by_cases h : k < xs.length
  · simp [List.range, List.range.loop, ints, int, h]
    refine ⟨⟨k + 1, h⟩, ?_, by simp; omega⟩
    simp [sub, slotsLe, clean, keep, refsL, refs, once, place, renL, ren, List.replicate, int, bool, ints, sumW_succ h]
    rw [wrapI (by omega) (by omega)]
  · simp [List.range, List.range.loop, ints, int, h]
    rw [List.take_of_length_le (by omega)]

/-- A row of n numbers from 0 to 100 that come to 100. -/
def rowP (n : Nat) (r : Bool × List Int) : Bool := rowIs n 100 r && decide (sumW r.2 = 100)
def pointsB (xss : List (Bool × List Int)) : Bool := match xss with
  | [a, b] => inR 1 6 a.2.length && (rowP a.2.length a && rowP a.2.length b)
  | _ => false
theorem pointsB_eq {xss : List (Bool × List Int)} (h : xss.length = 2) : pointsB xss = (inR 1 6 (xss[0]'(by omega)).2.length && xss.all (rowP (xss[0]'(by omega)).2.length)) := by
  match xss, h with
  | [a, b], _ => simp [pointsB]
theorem pointsB_ne {xss : List (Bool × List Int)} (h : ¬ xss.length = 2) : pointsB xss = false := by
  match xss, h with
  | [], _ => rfl
  | [a], _ => rfl
  | [a, b], h => simp at h
  | a :: b :: c :: l, _ => rfl
theorem pointsB_rect {xss : List (Bool × List Int)} (h : xss.length = 2) : pointsB xss = (rectB xss 2 6 100 && (decide (sumW (xss[0]'(by omega)).2 = 100) && decide (sumW (xss[1]'(by omega)).2 = 100))) := by
  match xss, h with
  | [a, b], _ =>
    simp only [pointsB, rectB, rowP, List.all_cons, List.all_nil, List.getElem_cons_zero, List.getElem_cons_succ, List.length_cons, List.length_nil]
    rw [show inR 1 2 ((0 + 1 + 1 : Nat) : Int) = true from rfl]
    generalize inR 1 6 _ = p
    generalize rowIs _ _ a = q
    generalize rowIs _ _ b = r
    generalize decide (sumW a.2 = 100) = s
    generalize decide (sumW b.2 = 100) = t
    cases p <;> cases q <;> cases r <;> cases s <;> cases t <;> rfl

noncomputable def mPoints : List AV → Option AV := mk (fun _ => True) (fun (p : Bool × List (Bool × List Int)) => [intss p.1 p.2]) (fun p => bool (pointsB p.2))
theorem mPoints_at (nl : Bool) (xs : List (Bool × List Int)) : mPoints [.sl nl 1 (xs.map row)] = some (.v (.bool (pointsB xs))) :=
  mk_eq (enc := fun (p : Bool × List (Bool × List Int)) => [intss p.1 p.2]) (x := (nl, xs)) (by rintro ⟨x, x'⟩ ⟨y, y'⟩ h; simp [intss, map_row_inj] at h; simp [h]) trivial

end Go.Proofs.YtiieikknhheffaaDoor.Ax

/-
  Contracts of the library's searches over a list by a function. No condition.
-/
namespace Go.Proofs.YtiieikknhheffaaDoor.Ax
open Go Go.RowKit
set_option linter.unusedSimpArgs false

theorem lens_fracs {nl : Bool} {xs : List (Int × Int)} : lens (.sl nl 2 (xs.map frac)) ↔ xs.length ≤ 9223372036854775807 ∧ (nl = true → xs = []) := by
  simp [lens, lensL_map, lensL, frac]

end Go.Proofs.YtiieikknhheffaaDoor.Ax

/-
  Contracts of slices.Max, greatest. No condition.
-/
namespace Go.Proofs.YtiieikknhheffaaDoor.Ax
open Go Go.RowKit
set_option linter.unusedSimpArgs false

/-- The greatest of the first k numbers. -/
def mxTo (xs : List Int) (k : Nat) : Int := (xs.take k).foldl max (xs.headD 0)
theorem mxTo_one {xs : List Int} (h : 0 < xs.length) : mxTo xs 1 = xs[0] := by
  cases xs with
  | nil => simp at h
  | cons x xs => simp [mxTo]
theorem mxTo_succ {xs : List Int} {k : Nat} (h : k < xs.length) : mxTo xs (k + 1) = max (mxTo xs k) xs[k] := by
  unfold mxTo; rw [List.take_succ_eq_append_getElem h, List.foldl_append]; rfl
def mx (xs : List Int) : Int := mxTo xs xs.length

noncomputable def mMax : List AV → Option AV := mk (fun p => 0 < p.2.length ∧ p.2.length ≤ 2 ^ 40) (fun (p : Bool × List Int) => [ints p.1 p.2]) (fun p => int (mx p.2))
theorem mMax_at (nl : Bool) (xs : List Int) (h : 0 < xs.length) (h' : xs.length ≤ 2 ^ 40) : mMax [.sl nl 1 (xs.map int)] = some (.v (.int .i64 (mx xs))) :=
  mk_eq (enc := fun (p : Bool × List Int) => [ints p.1 p.2]) (x := (nl, xs)) (by rintro ⟨x, x'⟩ ⟨y, y'⟩ h; simp [ints, map_int_inj] at h; simp [h]) ⟨h, h'⟩

set_option maxHeartbeats 1000000 in
theorem max_ok : FnOk Tryd.prog 56 mMax := by
  refine mk_ok fun ⟨nl, xs⟩ ⟨h0, hp⟩ => ?_
  simp only at h0 hp
  refine callOk_of_awp (ctx_ok eqOk .nil) mixed (live := [true, false, true, true, true, false, false, true, false, false, false, false, false, false, false, true]) (dt := []) Tryd.func56 rfl (by kernel_rfl) (by kernel_rfl) fun w0 => ?_
  have hlt : ¬ (xs.length : Int) < 1 := by omega
  simp [Tryd.f56, List.range, List.range.loop, ints, int, hlt, h0]
  refine awp_loop_of (ctx_ok eqOk .nil) mixed (live := [true, false, true, true, true, false, false, true, false, false, false, false, false, false, false, true]) [true, false, false, true, true] (α := {k : Nat // k ≤ xs.length ∧ 1 ≤ k})
    (fun k => ⟨[ints nl xs, .junk, .junk, int (mxTo xs k.1), int k.1, .junk, .junk, .junk, .junk, .junk, .junk, .junk, .junk, .junk, .junk, .junk, .junk, .junk, .junk, .junk, .junk, .junk, .junk, .junk, .junk], []⟩) (fun k => xs.length - k.1) ⟨1, by omega, by omega⟩
    (by simp [sub, slotsLe, clean, keep, refsL, refs, once, place, renL, ren, List.replicate, int, bool, ints, mxTo_one h0]) ?_
  rintro ⟨k, hk, hk1⟩
  by_cases h : k < xs.length
  · simp [List.range, List.range.loop, ints, int, h]
    refine ⟨⟨k + 1, h, by omega⟩, ?_, by simp; omega⟩
    simp [sub, slotsLe, clean, keep, refsL, refs, once, place, renL, ren, List.replicate, int, bool, ints, mxTo_succ h]
    exact wrapI (by omega) (by omega)
  · have hk' : k = xs.length := by omega
    subst hk'
    simp [List.range, List.range.loop, ints, int, h, mx]

/-- Where, among the first k numbers, m stands. -/
def posOf (xs : List Int) (m : Int) (k : Nat) : List Int := ((List.range k).filter fun i => decide (xs[i]? = some m)).map fun (i : Nat) => (i : Int)
theorem posOf_zero {xs : List Int} {m : Int} : posOf xs m 0 = [] := by simp [posOf]
theorem posOf_succ {xs : List Int} {m : Int} {k : Nat} (h : k < xs.length) : posOf xs m (k + 1) = posOf xs m k ++ if xs[k] = m then [(k : Int)] else [] := by
  unfold posOf
  rw [List.range_succ, List.filter_append, List.map_append]
  congr 1
  by_cases e : xs[k] = m
  · simp [h, e]
  · simp [h, e]
theorem posOf_len {xs : List Int} {m : Int} {k : Nat} : (posOf xs m k).length ≤ k := by
  unfold posOf; rw [List.length_map]; exact Nat.le_trans (List.length_filter_le _ _) (by simp)

/-- A list that is nil as long as nothing has been put into it. -/
def outA : List Int → AV
  | [] => .sl true 1 []
  | _ :: l => .ref 0 [] 0 (l.length + 1)
def outT : List Int → List Tok
  | [] => []
  | x :: l => [⟨true, .sl false 1 ((x :: l).map int)⟩]

noncomputable def mGreat : List AV → Option AV := mk (fun p => p.2.length ≤ 2 ^ 40) (fun (p : Bool × List Int) => [ints p.1 p.2]) (fun p => ints (posOf p.2 (mx p.2) p.2.length).isEmpty (posOf p.2 (mx p.2) p.2.length))
theorem mGreat_at (nl : Bool) (xs : List Int) (h' : xs.length ≤ 2 ^ 40) : mGreat [.sl nl 1 (xs.map int)] = some (.sl (posOf xs (mx xs) xs.length).isEmpty 1 ((posOf xs (mx xs) xs.length).map int)) :=
  mk_eq (enc := fun (p : Bool × List Int) => [ints p.1 p.2]) (x := (nl, xs)) (by rintro ⟨x, x'⟩ ⟨y, y'⟩ h; simp [ints, map_int_inj] at h; simp [h]) h'

end Go.Proofs.YtiieikknhheffaaDoor.Ax
