/-
  Plain laws on fractions: parts of 1, differences, products, the points of an heir. No condition.
-/
import Derived.Test.YtlkgppincgpfjaaCG8
import Derived.Test.YtlkgppincgpfjaaCG10
namespace Go.Proofs.Ytlkgppincgpfjaa.Ax
open Go Go.RowKit
set_option linter.unusedSimpArgs false

theorem fracOk_gcd {t b : Int} (h : fracOk (t, b) = true) : Int.gcd t b = 1 := by
  simp only [fracOk, Bool.and_eq_true, decide_eq_true_eq] at h; exact h.2
theorem part_facts {t b : Int} (h : partB (t, b) = true) : fracOk (t, b) = true ∧ 0 ≤ t ∧ t ≤ b ∧ 1 ≤ b ∧ b ≤ 1000000000 := by
  simp only [partB, inR, Bool.and_eq_true, decide_eq_true_eq] at h
  have := fracOk_bd h.1
  simp only at this
  exact ⟨h.1, h.2.1, h.2.2, by omega, by omega⟩
theorem part_zero {t b : Int} (h : partB (t, b) = true) : (t = 0 ∧ b = 1) ↔ ¬ 0 < t := by
  obtain ⟨h1, h2, h3, h4, h5⟩ := part_facts h
  have hg := fracOk_gcd h1
  constructor
  · rintro ⟨rfl, rfl⟩; omega
  · intro hn
    have : t = 0 := by omega
    subst this
    rw [Int.gcd_zero_left] at hg
    exact ⟨rfl, by omega⟩
theorem part_one {t b : Int} (h : partB (t, b) = true) : (t = 1 ∧ b = 1) ↔ ¬ t < b := by
  obtain ⟨h1, h2, h3, h4, h5⟩ := part_facts h
  have hg := fracOk_gcd h1
  constructor
  · rintro ⟨rfl, rfl⟩; omega
  · intro hn
    have : t = b := by omega
    subst this
    rw [Int.gcd_self] at hg
    exact ⟨by omega, by omega⟩

theorem mkF_self {t b : Int} (h : fracOk (t, b) = true) : mkF t b = ((t, b), true) := by
  unfold mkF
  rw [fracOk_gcd h]
  simp [h]
theorem fracOk_mk {t b : Int} (h1 : -1000000000 ≤ t) (h2 : t ≤ 1000000000) (h3 : 1 ≤ b) (h4 : b ≤ 1000000000) (h : Int.gcd t b = 1) : fracOk (t, b) = true := by
  simp [fracOk, h1, h2, h3, h4, h]
theorem fracOk_neg {t b : Int} : fracOk (-t, b) = fracOk (t, b) := by
  rw [Bool.eq_iff_iff]
  simp only [fracOk, Bool.and_eq_true, decide_eq_true_eq, Int.neg_gcd]
  constructor <;> rintro ⟨⟨⟨h1, h2⟩, h3⟩, h4⟩ <;> exact ⟨⟨⟨by omega, by omega⟩, h3⟩, h4⟩
/-- The difference of two fractions, and whether it is valid. -/
def subF (x y : Int × Int) : (Int × Int) × Bool := addF x (-y.1, y.2)
theorem sub_part {t b : Int} (h : partB (t, b) = true) : subF (1, 1) (t, b) = ((b - t, b), true) ∧ partB (b - t, b) = true := by
  obtain ⟨h1, h2, h3, h4, h5⟩ := part_facts h
  have hg := fracOk_gcd h1
  have hg2 : Int.gcd (b - t) b = 1 := by
    rw [Int.gcd_self_sub_left]; exact hg
  have hok := fracOk_mk (t := b - t) (b := b) (by omega) (by omega) h4 h5 hg2
  refine ⟨?_, by simp only [partB, hok, inR]; simp; omega⟩
  unfold subF addF
  have e1 : fracOk (1, 1) = true := by decide
  have e2 : fracOk (-t, b) = true := by rw [fracOk_neg]; exact h1
  simp only [e1, e2, Bool.and_true, if_true]
  rw [show 1 * b + -t * 1 = b - t by omega, show 1 * b = b by omega]
  exact mkF_self hok

/-- The product of two fractions, and whether it is valid. -/
def mulF (x y : Int × Int) : (Int × Int) × Bool := if fracOk x && fracOk y then mkF (x.1 * y.1) (x.2 * y.2) else ((0, 0), false)
theorem mulF_no {x y : Int × Int} (h : (mulF x y).2 = false) : mulF x y = ((0, 0), false) := by
  unfold mulF mkF at h ⊢
  split
  · rename_i h1
    rw [if_pos h1] at h
    split
    · rename_i h2; rw [if_pos h2] at h; simp at h
    · rfl
  · rfl

/-- -1, 0, 1 as two fractions compare; -2 if one is not valid. -/
def cmpF (x y : Int × Int) : Int := if fracOk x && fracOk y then (if x.1 * y.2 < y.1 * x.2 then -1 else if y.1 * x.2 < x.1 * y.2 then 1 else 0) else -2

/-- An heir's part of a thing, from the first heir's part. -/
def turnF (who : Int) (f : Int × Int) : Int × Int := if who = 1 then (f.2 - f.1, f.2) else f
/-- The points of an heir for the first k things, and whether all sums up to there are valid. -/
def heirTo (xss : List (Bool × List Int)) (fs : List (Int × Int)) (who : Int) : Nat → (Int × Int) × Bool
  | 0 => ((0, 1), true)
  | k + 1 => if (heirTo xss fs who k).2 && (mulF (ent xss who.toNat k, 1) (turnF who (fs.getD k (0, 0)))).2 then addF (heirTo xss fs who k).1 (mulF (ent xss who.toNat k, 1) (turnF who (fs.getD k (0, 0)))).1 else ((0, 0), false)
def heirF (xss : List (Bool × List Int)) (fs : List (Int × Int)) (who : Int) : (Int × Int) × Bool := if sharesB xss fs && inR 0 1 who then heirTo xss fs who fs.length else ((0, 0), false)
theorem heirTo_false {xss : List (Bool × List Int)} {fs : List (Int × Int)} {who : Int} {k : Nat} (h : (heirTo xss fs who k).2 = false) : ∀ n, k < n → heirTo xss fs who n = ((0, 0), false)
  | 0, hn => by omega
  | n + 1, hn => by
    by_cases e : k = n
    · subst e; rw [heirTo, h]; simp
    · rw [heirTo, heirTo_false h n (by omega)]; simp
theorem heirTo_bad {xss : List (Bool × List Int)} {fs : List (Int × Int)} {who : Int} {k n : Nat} (hk : 0 < k) (h : (heirTo xss fs who k).2 = false) (hn : k ≤ n) : heirTo xss fs who n = ((0, 0), false) := by
  by_cases e : k = n
  · subst e
    obtain ⟨m, rfl⟩ : ∃ m, k = m + 1 := ⟨k - 1, by omega⟩
    rw [heirTo] at h ⊢
    split
    · rename_i h1; rw [if_pos h1] at h; exact addF_ok h
    · rfl
  · exact heirTo_false h n (by omega)

/-- Whether a swap of things x and y (x given, y taken) is no gain. -/
def bestAt (xss : List (Bool × List Int)) (fs : List (Int × Int)) (x y : Nat) : Bool :=
  !(decide (0 < (fs.getD x (0, 0)).1) && decide ((fs.getD y (0, 0)).1 < (fs.getD y (0, 0)).2) && decide (ent xss 0 x * ent xss 1 y < ent xss 0 y * ent xss 1 x))
def bestRow (xss : List (Bool × List Int)) (fs : List (Int × Int)) (x : Nat) : Bool := allR fs.length (bestAt xss fs x)
def bestHB (xss : List (Bool × List Int)) (fs : List (Int × Int)) : Bool := sharesB xss fs && allR fs.length (bestRow xss fs)

theorem shares_facts {xss : List (Bool × List Int)} {fs : List (Int × Int)} (h : sharesB xss fs = true) : xss.length = 2 ∧ rectB xss 2 6 100 = true ∧ fs.length = wid xss ∧ ∀ k (hk : k < fs.length), partB fs[k] = true := by
  simp only [sharesB, Bool.and_eq_true, decide_eq_true_eq, List.all_eq_true] at h
  obtain ⟨⟨h1, h2⟩, h3⟩ := h
  obtain ⟨h4, h5⟩ := points_facts h1
  exact ⟨h4, h5, h2, fun k hk => h3 _ (List.getElem_mem _)⟩
theorem ent_mul {xss : List (Bool × List Int)} (h : rectB xss 2 6 100 = true) {i j : Nat} (hi : i < xss.length) (hj : j < xss.length) {x y : Nat} (hx : x < wid xss) (hy : y < wid xss) : 0 ≤ ent xss i x * ent xss j y ∧ ent xss i x * ent xss j y ≤ 10000 := by
  have h1 := ent_bd h hi hx
  have h2 := ent_bd h hj hy
  refine ⟨Int.mul_nonneg h1.1 h2.1, ?_⟩
  have := Int.mul_le_mul h1.2 h2.2 h2.1 (by omega : (0 : Int) ≤ 100)
  omega

end Go.Proofs.Ytlkgppincgpfjaa.Ax
