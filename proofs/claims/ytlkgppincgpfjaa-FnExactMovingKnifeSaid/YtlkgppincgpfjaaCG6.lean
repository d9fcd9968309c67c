/-
  Contracts: IsDivision of the reference, PieceEnvy (both programs). No condition.
-/
import Derived.Test.YtlkgppincgpfjaaCG5
namespace Go.Proofs.Ytlkgppincgpfjaa.Ax
open Go Go.RowKit
set_option linter.unusedSimpArgs false

theorem posFrom_app {v : Int} {xs ys : List Int} : ∀ {k : Nat}, posFrom v (xs ++ ys) k = if 0 ≤ posFrom v xs k then posFrom v xs k else posFrom v ys (k + xs.length) := by
  induction xs with
  | nil => intro k; simp [posFrom]
  | cons x xs ih =>
    intro k
    simp only [List.cons_append, posFrom]
    by_cases e : x = v
    · simp [e]
    · simp only [if_neg e]
      rw [ih]; simp [Nat.add_assoc, Nat.add_comm 1]
theorem pos_snoc {v x : Int} {xs : List Int} : decide (0 ≤ pos (xs ++ [x]) v) = (decide (0 ≤ pos xs v) || decide (x = v)) := by
  unfold pos
  rw [posFrom_app]
  by_cases h : 0 ≤ posFrom v xs 0
  · simp [h]
  · by_cases e : x = v
    · simp [h, posFrom, e]
    · simp [h, posFrom, e]

/-- Whose pieces were met among the first k. -/
def seenL (n : Nat) (l : List Int) (k : Nat) : List Bool := (List.range n).map fun (v : Nat) => decide (0 ≤ pos (l.take k) v)
theorem seenL_zero {n : Nat} {l : List Int} : seenL n l 0 = List.replicate n false := by
  unfold seenL
  apply List.ext_getElem
  · simp
  · intro i h1 h2; simp [pos, posFrom]
theorem seenL_len {n : Nat} {l : List Int} {k : Nat} : (seenL n l k).length = n := by simp [seenL]
theorem seenL_at {n : Nat} {l : List Int} {k i : Nat} (h : i < (seenL n l k).length) : (seenL n l k)[i] = decide (0 ≤ pos (l.take k) (i : Int)) := by simp [seenL]
theorem seenL_get {n : Nat} {l : List Int} {k : Nat} {x : Int} (h0 : 0 ≤ x) (h : x.toNat < n) : (seenL n l k)[x.toNat]? = some (decide (0 ≤ pos (l.take k) x)) := by
  unfold seenL
  have e : ((x.toNat : Nat) : Int) = x := by omega
  simp [h, e]
theorem seenL_set {n : Nat} {l : List Int} {k : Nat} (hk : k < l.length) (h0 : 0 ≤ l[k]) (_h : l[k].toNat < n) : ((seenL n l k).map bool).set l[k].toNat (bool true) = (seenL n l (k + 1)).map bool := by
  rw [← List.map_set]
  congr 1
  apply List.ext_getElem
  · simp [seenL]
  · intro i h1 h2
    rw [List.getElem_set]
    simp only [seenL, List.getElem_map, List.getElem_range, List.take_succ_eq_append_getElem hk, pos_snoc]
    by_cases e : l[k].toNat = i
    · simp [← e]; omega
    · have : l[k] ≠ (i : Int) := by omega
      simp [e, this]

theorem div_rect {xss : List (Bool × List Int)} {l : List Int} (h : divB xss l = true) : rectB xss 3 10 100 = true ∧ l.length = wid xss := by
  simp only [divB, Bool.and_eq_true, decide_eq_true_eq] at h
  exact ⟨h.1.1.1, h.1.1.2⟩

theorem wo_pre {xss : List (Bool × List Int)} {l : List Int} {a b c : Int} (h : rectB xss a b c = true) (hl : l.length ≤ wid xss) {i : Nat} (hi : i < xss.length) : (0 : Int) ≤ (i : Int) ∧ ((i : Int)).toNat < xss.length ∧ l.length ≤ (xss.getD ((i : Int)).toNat (true, [])).2.length := by
  have hr := (rect_row h hi).1
  refine ⟨by omega, by simpa using hi, ?_⟩
  rw [Int.toNat_natCast, List.getD_eq_getElem?_getD, List.getElem?_eq_getElem hi]
  simp only [Option.getD_some]; omega

/-- How much person i envies person k. -/
def envD (xss : List (Bool × List Int)) (l : List Int) (i k : Nat) : Int := IntKind.i64.wrap (wo xss l i k - wo xss l i i)
/-- The most that person i envies one of the first k, and m. -/
def peRow (xss : List (Bool × List Int)) (l : List Int) (i : Nat) (m : Int) : Nat → Int
  | 0 => m
  | k + 1 => max (peRow xss l i m k) (envD xss l i k)
def peTo (xss : List (Bool × List Int)) (l : List Int) : Nat → Int
  | 0 => 0
  | i + 1 => peRow xss l i (peTo xss l i) xss.length
theorem peRow_nn {xss : List (Bool × List Int)} {l : List Int} {i : Nat} {m : Int} (h : 0 ≤ m) : ∀ k, 0 ≤ peRow xss l i m k
  | 0 => h
  | k + 1 => by have := peRow_nn (xss := xss) (l := l) (i := i) h k; rw [peRow]; omega
theorem peTo_nn {xss : List (Bool × List Int)} {l : List Int} : ∀ i, 0 ≤ peTo xss l i
  | 0 => by simp [peTo]
  | i + 1 => peRow_nn (peTo_nn i) _

noncomputable def mPiece : List AV → Option AV := mk (fun _ => True) (fun (p : (Bool) × (List (Bool × List Int)) × (Bool) × (List Int)) => [intss p.1 p.2.1, ints p.2.2.1 p.2.2.2]) (fun p => int (if divB p.2.1 p.2.2.2 = true then peTo p.2.1 p.2.2.2 p.2.1.length else -1))
theorem mPiece_at (nl : Bool) (xss : List (Bool × List Int)) (nl' : Bool) (l : List Int) : mPiece [.sl nl 1 (xss.map row), .sl nl' 1 (l.map int)] = some (.v (.int .i64 (if divB xss l = true then peTo xss l xss.length else -1))) :=
  mk_eq (enc := fun (p : (Bool) × (List (Bool × List Int)) × (Bool) × (List Int)) => [intss p.1 p.2.1, ints p.2.2.1 p.2.2.2]) (x := (nl, xss, nl', l)) (by rintro ⟨a0, a1, a2, a3⟩ ⟨b0, b1, b2, b3⟩ h; simp [ints, intss, int, bool, row, frac, fracs, map_int_inj, map_row_inj, frac_inj, map_frac_inj] at h; simp [h]) trivial

end Go.Proofs.Ytlkgppincgpfjaa.Ax
