/-
  Contracts: CutAndChoose (both programs). No condition.
-/
import Derived.Test.YtlkgppincgpfjaaCG20
import Derived.Test.YtlkgppincgpfjaaCB2
namespace Go.Proofs.Ytlkgppincgpfjaa.Ax
open Go Go.RowKit
set_option linter.unusedSimpArgs false

def mBoolInt : List AV → Option AV
  | [.v (.bool b)] => some (.v (.int .i64 (if b then 1 else 0)))
  | _ => none
theorem mBoolInt_at {b : Bool} : mBoolInt [.v (.bool b)] = some (.v (.int .i64 (if b then 1 else 0))) := rfl
theorem tkd {l : List Int} {c : Nat} : List.take (l.length - c) (List.drop c l) = List.drop c l := List.take_of_length_le (by simp)

/-- The lesser of the two parts at a cut. -/
def lessr (r : List Int) (c : Nat) : Int := min (sumW (r.take c)) (sumW (r.drop c))
/-- The first best cut among the first m. -/
def bestTo (r : List Int) : Nat → Nat
  | 0 => 0
  | m + 1 => if lessr r (bestTo r m) < lessr r m then m else bestTo r m
theorem bestTo_le {r : List Int} : ∀ {m : Nat}, bestTo r (m + 1) ≤ m
  | 0 => by simp [bestTo]
  | m + 1 => by rw [bestTo]; split; exact Nat.le_refl _; exact Nat.le_trans bestTo_le (Nat.le_succ m)
def cutP (r0 r1 : List Int) (i : Nat) : Int :=
  let c := bestTo r0 (r0.length + 1)
  let f : Int := if sumW (r1.drop c) < sumW (r1.take c) then 1 else 0
  if i < c then f else 1 - f
def cutList (r0 r1 : List Int) : List Int := (List.range r0.length).map (cutP r0 r1)
theorem cutList_len {r0 r1 : List Int} : (cutList r0 r1).length = r0.length := by simp [cutList]
def cutL (xss : List (Bool × List Int)) : Bool × List Int := match xss with
  | [r0, r1] => if rectB xss 3 10 100 = true then (false, cutList r0.2 r1.2) else (true, [])
  | _ => (true, [])
theorem cutL_len {xss : List (Bool × List Int)} : (cutL xss).2.length ≤ 2 ^ 40 := by
  unfold cutL
  split
  · split
    · rename_i h
      have := rect_len h
      simp [wid, cutList] at this ⊢; omega
    · simp
  · simp

noncomputable def mCut : List AV → Option AV := mk (fun _ => True) (fun (p : (Bool) × (List (Bool × List Int))) => [intss p.1 p.2]) (fun p => .sl (cutL p.2).1 1 ((cutL p.2).2.map int))
theorem mCut_at (nl : Bool) (xss : List (Bool × List Int)) : mCut [.sl nl 1 (xss.map row)] = some (.sl (cutL xss).1 1 ((cutL xss).2.map int)) :=
  mk_eq (enc := fun (p : (Bool) × (List (Bool × List Int))) => [intss p.1 p.2]) (x := (nl, xss)) (by rintro ⟨a0, a1⟩ ⟨b0, b1⟩ h; simp [ints, intss, int, bool, row, frac, fracs, map_int_inj, map_row_inj, frac_inj, map_frac_inj] at h; simp [h]) trivial

noncomputable def mLess : List AV → Option AV := mk (fun (p : Nat × Bool × List (Bool × List Int)) => ∃ r rs, p.2.2 = r :: rs ∧ p.1 ≤ r.2.length) (fun p => [int p.1, .fp (intss p.2.1 p.2.2) 0]) (fun p => int (lessr (p.2.2.headD (true, [])).2 p.1))
theorem mLess_at (c : Nat) (nl : Bool) (r : Bool × List Int) (rs : List (Bool × List Int)) (h : c ≤ r.2.length) : mLess [.v (.int .i64 c), .fp (.sl nl 1 (row r :: rs.map row)) 0] = some (.v (.int .i64 (lessr r.2 c))) :=
  mk_eq (enc := fun (p : Nat × Bool × List (Bool × List Int)) => [int p.1, .fp (intss p.2.1 p.2.2) 0]) (x := (c, nl, r :: rs)) (by
    rintro ⟨a, b, e⟩ ⟨a', b', e'⟩ h
    simp [int, intss, map_row_inj] at h
    obtain ⟨h1, _, h2⟩ := h
    have : a = a' := by omega
    simp [this, h2]) ⟨r, rs, rfl, h⟩

/-- The list whose first k pieces are given. -/
def cutF (r0 r1 : List Int) (k : Nat) : List AV := filled (fun i => int (cutP r0 r1 i)) (int 0) (List.range r0.length) k
theorem cutF_len {r0 r1 : List Int} {k : Nat} (h : k ≤ r0.length) : (cutF r0 r1 k).length = r0.length := by unfold cutF; rw [filled_len (by simpa using h)]; simp
theorem cutF_zero {r0 r1 : List Int} : cutF r0 r1 0 = List.replicate r0.length (.v (.int .i64 0)) := by simp [cutF, filled_zero, int]
theorem cutF_all {r0 r1 : List Int} : cutF r0 r1 r0.length = (cutList r0 r1).map int := by
  have := filled_all (f := fun i => int (cutP r0 r1 i)) (z := int 0) (xs := List.range r0.length)
  rw [List.length_range] at this
  rw [cutF, this]; simp [cutList]
theorem cutF_at {r0 r1 : List Int} {k : Nat} (h : k < r0.length) (hh : k < (cutF r0 r1 k).length) : (cutF r0 r1 k)[k] = .v (.int .i64 0) := filled_get' (by simpa using h) hh
theorem cutF_set {r0 r1 : List Int} {k : Nat} (h : k < r0.length) : (cutF r0 r1 k).set k (.v (.int .i64 (cutP r0 r1 k))) = cutF r0 r1 (k + 1) := by
  have := filled_set (f := fun i => int (cutP r0 r1 i)) (z := int 0) (xs := List.range r0.length) (k := k) (by simpa using h)
  simpa [cutF, int] using this

theorem cutL_no {xss : List (Bool × List Int)} (h : rectB xss 3 10 100 = false ∨ ¬ xss.length = 2) : cutL xss = (true, []) := by
  match xss, h with
  | [], _ => rfl
  | [a], _ => rfl
  | [a, b], h => simp at h; simp [cutL, h]
  | a :: b :: c :: l, _ => rfl

/-- The first k pieces, given. -/
def cutA (r0 r1 : List Int) (k : Nat) : List Int := (List.range k).map (cutP r0 r1)
theorem cutA_len {r0 r1 : List Int} {k : Nat} : (cutA r0 r1 k).length = k := by simp [cutA]
theorem cutA_zero {r0 r1 : List Int} : cutA r0 r1 0 = [] := by simp [cutA]
theorem cutA_succ {r0 r1 : List Int} {k : Nat} : (cutA r0 r1 k).map int ++ [.v (.int .i64 (cutP r0 r1 k))] = (cutA r0 r1 (k + 1)).map int := by simp [cutA, List.range_succ, int]
theorem cutA_all {r0 r1 : List Int} : cutA r0 r1 r0.length = cutList r0 r1 := rfl

end Go.Proofs.Ytlkgppincgpfjaa.Ax
