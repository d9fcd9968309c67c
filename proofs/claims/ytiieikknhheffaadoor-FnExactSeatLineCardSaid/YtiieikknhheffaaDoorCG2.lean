/-
  Contracts: sums of fractions (both programs). No condition.
-/
import Derived.Test.YtiieikknhheffaaDoorCB2
import Derived.Test.YtiieikknhheffaaDoorCB1
import Derived.Test.YtiieikknhheffaaDoorCG1
namespace Go.Proofs.YtiieikknhheffaaDoor.Ax
open Go Go.RowKit
set_option linter.unusedSimpArgs false

/-- A quotient in lowest terms, if it is valid (b: more than 0). -/
def mkF (t b : Int) : (Int × Int) × Bool := if fracOk (t.tdiv (Int.gcd t b), b.tdiv (Int.gcd t b)) = true then ((t.tdiv (Int.gcd t b), b.tdiv (Int.gcd t b)), true) else ((0, 0), false)
def redF (t b : Int) : (Int × Int) × Bool := if b < 0 then mkF (-t) (-b) else mkF t b

theorem tdiv_bd {x y m : Int} (h1 : -m ≤ x) (h2 : x ≤ m) : -m ≤ x.tdiv y ∧ x.tdiv y ≤ m := by
  have : (x.tdiv y).natAbs ≤ x.natAbs := by rw [Int.natAbs_tdiv]; exact Nat.div_le_self _ _
  omega
theorem gcd_bd {x y : Int} (h : y ≠ 0) : 0 < (Int.gcd x y : Int) ∧ (Int.gcd x y : Int) ≤ y.natAbs := by
  have h1 : 0 < Int.gcd x y := Int.gcd_pos_of_ne_zero_right _ h
  have h2 : Int.gcd x y ∣ y.natAbs := Nat.gcd_dvd_right _ _
  have := Nat.le_of_dvd (by omega) h2
  omega


noncomputable def mRed : List AV → Option AV := mk (fun p => -4611686018427387904 ≤ p.1 ∧ p.1 ≤ 4611686018427387904 ∧ -4611686018427387904 ≤ p.2 ∧ p.2 ≤ 4611686018427387904 ∧ p.2 ≠ 0) (fun (p : (Int) × (Int)) => [int p.1, int p.2]) (fun p => .tup [.agg [.v (.int .i64 (redF p.1 p.2).1.1), .v (.int .i64 (redF p.1 p.2).1.2)], .v (.bool (redF p.1 p.2).2)])
theorem mRed_at (t : Int) (b : Int) (hpre : -4611686018427387904 ≤ t ∧ t ≤ 4611686018427387904 ∧ -4611686018427387904 ≤ b ∧ b ≤ 4611686018427387904 ∧ b ≠ 0) : mRed [.v (.int .i64 t), .v (.int .i64 b)] = some (.tup [.agg [.v (.int .i64 (redF t b).1.1), .v (.int .i64 (redF t b).1.2)], .v (.bool (redF t b).2)]) :=
  mk_eq (enc := fun (p : (Int) × (Int)) => [int p.1, int p.2]) (x := (t, b)) (by rintro ⟨a0, a1⟩ ⟨b0, b1⟩ h; simp [ints, intss, int, bool, row, frac, fracs, map_int_inj, map_row_inj, frac_inj, map_frac_inj] at h; simp [h]) hpre

noncomputable def mMk : List AV → Option AV := mk (fun p => -4611686018427387904 ≤ p.1 ∧ p.1 ≤ 4611686018427387904 ∧ 0 < p.2 ∧ p.2 ≤ 4611686018427387904) (fun (p : (Int) × (Int)) => [int p.1, int p.2]) (fun p => .tup [.agg [.v (.int .i64 (mkF p.1 p.2).1.1), .v (.int .i64 (mkF p.1 p.2).1.2)], .v (.bool (mkF p.1 p.2).2)])
theorem mMk_at (t : Int) (b : Int) (hpre : -4611686018427387904 ≤ t ∧ t ≤ 4611686018427387904 ∧ 0 < b ∧ b ≤ 4611686018427387904) : mMk [.v (.int .i64 t), .v (.int .i64 b)] = some (.tup [.agg [.v (.int .i64 (mkF t b).1.1), .v (.int .i64 (mkF t b).1.2)], .v (.bool (mkF t b).2)]) :=
  mk_eq (enc := fun (p : (Int) × (Int)) => [int p.1, int p.2]) (x := (t, b)) (by rintro ⟨a0, a1⟩ ⟨b0, b1⟩ h; simp [ints, intss, int, bool, row, frac, fracs, map_int_inj, map_row_inj, frac_inj, map_frac_inj] at h; simp [h]) hpre

noncomputable def mTwo : List AV → Option AV := mk (fun _ => True) (fun (p : (Int) × (Int) × (Int) × (Int)) => [frac (p.1, p.2.1), frac (p.2.2.1, p.2.2.2)]) (fun p => bool (fracOk (p.1, p.2.1) && fracOk (p.2.2.1, p.2.2.2)))
theorem mTwo_at (a : Int) (b : Int) (c : Int) (d : Int) : mTwo [.agg [.v (.int .i64 a), .v (.int .i64 b)], .agg [.v (.int .i64 c), .v (.int .i64 d)]] = some (.v (.bool (fracOk (a, b) && fracOk (c, d)))) :=
  mk_eq (enc := fun (p : (Int) × (Int) × (Int) × (Int)) => [frac (p.1, p.2.1), frac (p.2.2.1, p.2.2.2)]) (x := (a, b, c, d)) (by rintro ⟨a0, a1, a2, a3⟩ ⟨b0, b1, b2, b3⟩ h; simp [ints, intss, int, bool, row, frac, fracs, map_int_inj, map_row_inj, frac_inj, map_frac_inj] at h; simp [h]) trivial
/-- The sum of two fractions, and whether it is valid. -/
def addF (x y : Int × Int) : (Int × Int) × Bool := if fracOk x && fracOk y then mkF (x.1 * y.2 + y.1 * x.2) (x.2 * y.2) else ((0, 0), false)
noncomputable def mAdd : List AV → Option AV := mk (fun _ => True) (fun (p : (Int) × (Int) × (Int) × (Int)) => [frac (p.1, p.2.1), frac (p.2.2.1, p.2.2.2)]) (fun p => .tup [.agg [.v (.int .i64 (addF (p.1, p.2.1) (p.2.2.1, p.2.2.2)).1.1), .v (.int .i64 (addF (p.1, p.2.1) (p.2.2.1, p.2.2.2)).1.2)], .v (.bool (addF (p.1, p.2.1) (p.2.2.1, p.2.2.2)).2)])
theorem mAdd_at (a : Int) (b : Int) (c : Int) (d : Int) : mAdd [.agg [.v (.int .i64 a), .v (.int .i64 b)], .agg [.v (.int .i64 c), .v (.int .i64 d)]] = some (.tup [.agg [.v (.int .i64 (addF (a, b) (c, d)).1.1), .v (.int .i64 (addF (a, b) (c, d)).1.2)], .v (.bool (addF (a, b) (c, d)).2)]) :=
  mk_eq (enc := fun (p : (Int) × (Int) × (Int) × (Int)) => [frac (p.1, p.2.1), frac (p.2.2.1, p.2.2.2)]) (x := (a, b, c, d)) (by rintro ⟨a0, a1, a2, a3⟩ ⟨b0, b1, b2, b3⟩ h; simp [ints, intss, int, bool, row, frac, fracs, map_int_inj, map_row_inj, frac_inj, map_frac_inj] at h; simp [h]) trivial

theorem fracOk_bd {x : Int × Int} (h : fracOk x = true) : -1000000000 ≤ x.1 ∧ x.1 ≤ 1000000000 ∧ 1 ≤ x.2 ∧ x.2 ≤ 1000000000 := by
  simp only [fracOk, Bool.and_eq_true, decide_eq_true_eq] at h; omega
theorem mul_bd {x y m n : Int} (h1 : -m ≤ x) (h2 : x ≤ m) (h3 : -n ≤ y) (h4 : y ≤ n) : -(m * n) ≤ x * y ∧ x * y ≤ m * n := by
  have hx : (x.natAbs : Int) ≤ m := by omega
  have hy : (y.natAbs : Int) ≤ n := by omega
  have : (x * y).natAbs = x.natAbs * y.natAbs := Int.natAbs_mul _ _
  have h5 : (x.natAbs : Int) * y.natAbs ≤ m * n := Int.mul_le_mul hx hy (by omega) (by omega)
  have h6 : ((x * y).natAbs : Int) = (x.natAbs : Int) * y.natAbs := by rw [this]; simp
  omega
theorem mul_pos1 {x y : Int} (h1 : 1 ≤ x) (h2 : 1 ≤ y) : 0 < x * y := Int.mul_pos (by omega) (by omega)

theorem addF_ok {x y : Int × Int} (h : (addF x y).2 = false) : addF x y = ((0, 0), false) := by
  unfold addF mkF at h ⊢
  split
  · rename_i h1
    rw [if_pos h1] at h
    split
    · rename_i h2; rw [if_pos h2] at h; simp at h
    · rfl
  · rfl

/-- The sum of the first k fractions, and whether all sums up to there are valid. -/
def sumTo (fs : List (Int × Int)) : Nat → (Int × Int) × Bool
  | 0 => ((0, 1), true)
  | k + 1 => if (sumTo fs k).2 = true then addF (sumTo fs k).1 (fs.getD k (0, 0)) else ((0, 0), false)
def sumF (fs : List (Int × Int)) : (Int × Int) × Bool := if 100 < fs.length then ((0, 0), false) else sumTo fs fs.length
theorem sumTo_false {fs : List (Int × Int)} {k : Nat} (h : (sumTo fs k).2 = false) : ∀ n, k ≤ n → (sumTo fs n) = ((0, 0), false) ∨ (n = k ∧ (sumTo fs n).2 = false)
  | 0, hn => by
    have : k = 0 := by omega
    subst this; exact .inr ⟨rfl, h⟩
  | n + 1, hn => by
    by_cases e : k = n + 1
    · subst e; exact .inr ⟨rfl, h⟩
    · rcases sumTo_false h n (by omega) with h1 | ⟨_, h1⟩
      · left; rw [sumTo, h1]; simp
      · left; rw [sumTo, h1]; simp
theorem sumTo_bad {fs : List (Int × Int)} {k n : Nat} (hk : 0 < k) (h : (sumTo fs k).2 = false) (hn : k ≤ n) : sumTo fs n = ((0, 0), false) := by
  rcases sumTo_false h n hn with h1 | ⟨rfl, _⟩
  · exact h1
  · obtain ⟨m, rfl⟩ : ∃ m, n = m + 1 := ⟨n - 1, by omega⟩
    rw [sumTo] at h ⊢
    split
    · rename_i h1; rw [if_pos h1] at h; exact addF_ok h
    · rfl

noncomputable def mSumF : List AV → Option AV := mk (fun _ => True) (fun (p : (Bool) × (List (Int × Int))) => [fracs p.1 p.2]) (fun p => .tup [.agg [.v (.int .i64 (sumF p.2).1.1), .v (.int .i64 (sumF p.2).1.2)], .v (.bool (sumF p.2).2)])
theorem mSumF_at (nl : Bool) (fs : List (Int × Int)) : mSumF [.sl nl 2 (fs.map frac)] = some (.tup [.agg [.v (.int .i64 (sumF fs).1.1), .v (.int .i64 (sumF fs).1.2)], .v (.bool (sumF fs).2)]) :=
  mk_eq (enc := fun (p : (Bool) × (List (Int × Int))) => [fracs p.1 p.2]) (x := (nl, fs)) (by rintro ⟨a0, a1⟩ ⟨b0, b1⟩ h; simp [ints, intss, int, bool, row, frac, fracs, map_int_inj, map_row_inj, frac_inj, map_frac_inj] at h; simp [h]) trivial

end Go.Proofs.YtiieikknhheffaaDoor.Ax

/-
  Plain laws on fractions: parts of 1, differences, products, the points of an heir. No condition.
-/
namespace Go.Proofs.YtiieikknhheffaaDoor.Ax
open Go Go.RowKit
set_option linter.unusedSimpArgs false

theorem fracOk_gcd {t b : Int} (h : fracOk (t, b) = true) : Int.gcd t b = 1 := by
  simp only [fracOk, Bool.and_eq_true, decide_eq_true_eq] at h; exact h.2
theorem part_facts {t b : Int} (h : partB (t, b) = true) : fracOk (t, b) = true ∧ 0 ≤ t ∧ t ≤ b ∧ 1 ≤ b ∧ b ≤ 1000000000 := by
  simp only [partB, inR, Bool.and_eq_true, decide_eq_true_eq] at h
  have := fracOk_bd h.1
  simp only at this
  exact ⟨h.1, h.2.1, h.2.2, by omega, by omega⟩
theorem part_zero {t b : Int} (h : partB (t, b) = true) : (t = 0 ∧ b = 1) ↔ ¬ 0 < t := by
  obtain ⟨h1, h2, h3, h4, h5⟩ := part_facts h
  have hg := fracOk_gcd h1
  constructor
  · rintro ⟨rfl, rfl⟩; omega
  · intro hn
    have : t = 0 := by omega
    subst this
    rw [Int.gcd_zero_left] at hg
    exact ⟨rfl, by omega⟩
theorem part_one {t b : Int} (h : partB (t, b) = true) : (t = 1 ∧ b = 1) ↔ ¬ t < b := by
  obtain ⟨h1, h2, h3, h4, h5⟩ := part_facts h
  have hg := fracOk_gcd h1
  constructor
  · rintro ⟨rfl, rfl⟩; omega
  · intro hn
    have : t = b := by omega
    subst this
    rw [Int.gcd_self] at hg
    exact ⟨by omega, by omega⟩

theorem mkF_self {t b : Int} (h : fracOk (t, b) = true) : mkF t b = ((t, b), true) := by
  unfold mkF
  rw [fracOk_gcd h]
  simp [h]
theorem fracOk_mk {t b : Int} (h1 : -1000000000 ≤ t) (h2 : t ≤ 1000000000) (h3 : 1 ≤ b) (h4 : b ≤ 1000000000) (h : Int.gcd t b = 1) : fracOk (t, b) = true := by
  simp [fracOk, h1, h2, h3, h4, h]
theorem fracOk_neg {t b : Int} : fracOk (-t, b) = fracOk (t, b) := by
  rw [Bool.eq_iff_iff]
  simp only [fracOk, Bool.and_eq_true, decide_eq_true_eq, Int.neg_gcd]
  constructor <;> rintro ⟨⟨⟨h1, h2⟩, h3⟩, h4⟩ <;> exact ⟨⟨⟨by omega, by omega⟩, h3⟩, h4⟩
/-- The difference of two fractions, and whether it is valid. -/
def subF (x y : Int × Int) : (Int × Int) × Bool := addF x (-y.1, y.2)
theorem sub_part {t b : Int} (h : partB (t, b) = true) : subF (1, 1) (t, b) = ((b - t, b), true) ∧ partB (b - t, b) = true := by
  obtain ⟨h1, h2, h3, h4, h5⟩ := part_facts h
  have hg := fracOk_gcd h1
  have hg2 : Int.gcd (b - t) b = 1 := by
    rw [Int.gcd_self_sub_left]; exact hg
  have hok := fracOk_mk (t := b - t) (b := b) (by omega) (by omega) h4 h5 hg2
  refine ⟨?_, by simp only [partB, hok, inR]; simp; omega⟩
  unfold subF addF
  have e1 : fracOk (1, 1) = true := by decide
  have e2 : fracOk (-t, b) = true := by rw [fracOk_neg]; exact h1
  simp only [e1, e2, Bool.and_true, if_true]
  rw [show 1 * b + -t * 1 = b - t by omega, show 1 * b = b by omega]
  exact mkF_self hok

/-- The product of two fractions, and whether it is valid. -/
def mulF (x y : Int × Int) : (Int × Int) × Bool := if fracOk x && fracOk y then mkF (x.1 * y.1) (x.2 * y.2) else ((0, 0), false)
theorem mulF_no {x y : Int × Int} (h : (mulF x y).2 = false) : mulF x y = ((0, 0), false) := by
  unfold mulF mkF at h ⊢
  split
  · rename_i h1
    rw [if_pos h1] at h
    split
    · rename_i h2; rw [if_pos h2] at h; simp at h
    · rfl
  · rfl

/-- -1, 0, 1 as two fractions compare; -2 if one is not valid. -/
def cmpF (x y : Int × Int) : Int := if fracOk x && fracOk y then (if x.1 * y.2 < y.1 * x.2 then -1 else if y.1 * x.2 < x.1 * y.2 then 1 else 0) else -2

/-- An heir's part of a thing, from the first heir's part. -/
def turnF (who : Int) (f : Int × Int) : Int × Int := if who = 1 then (f.2 - f.1, f.2) else f
/-- The points of an heir for the first k things, and whether all sums up to there are valid. -/
def heirTo (xss : List (Bool × List Int)) (fs : List (Int × Int)) (who : Int) : Nat → (Int × Int) × Bool
  | 0 => ((0, 1), true)
  | k + 1 => if (heirTo xss fs who k).2 && (mulF (ent xss who.toNat k, 1) (turnF who (fs.getD k (0, 0)))).2 then addF (heirTo xss fs who k).1 (mulF (ent xss who.toNat k, 1) (turnF who (fs.getD k (0, 0)))).1 else ((0, 0), false)
def heirF (xss : List (Bool × List Int)) (fs : List (Int × Int)) (who : Int) : (Int × Int) × Bool := if sharesB xss fs && inR 0 1 who then heirTo xss fs who fs.length else ((0, 0), false)
theorem heirTo_false {xss : List (Bool × List Int)} {fs : List (Int × Int)} {who : Int} {k : Nat} (h : (heirTo xss fs who k).2 = false) : ∀ n, k < n → heirTo xss fs who n = ((0, 0), false)
  | 0, hn => by omega
  | n + 1, hn => by
    by_cases e : k = n
    · subst e; rw [heirTo, h]; simp
    · rw [heirTo, heirTo_false h n (by omega)]; simp
theorem heirTo_bad {xss : List (Bool × List Int)} {fs : List (Int × Int)} {who : Int} {k n : Nat} (hk : 0 < k) (h : (heirTo xss fs who k).2 = false) (hn : k ≤ n) : heirTo xss fs who n = ((0, 0), false) := by
  by_cases e : k = n
  · subst e
    obtain ⟨m, rfl⟩ : ∃ m, k = m + 1 := ⟨k - 1, by omega⟩
    rw [heirTo] at h ⊢
    split
    · rename_i h1; rw [if_pos h1] at h; exact addF_ok h
    · rfl
  · exact heirTo_false h n (by omega)

/-- Whether a swap of things x and y (x given, y taken) is no gain. -/
def bestAt (xss : List (Bool × List Int)) (fs : List (Int × Int)) (x y : Nat) : Bool :=
  !(decide (0 < (fs.getD x (0, 0)).1) && decide ((fs.getD y (0, 0)).1 < (fs.getD y (0, 0)).2) && decide (ent xss 0 x * ent xss 1 y < ent xss 0 y * ent xss 1 x))
def bestRow (xss : List (Bool × List Int)) (fs : List (Int × Int)) (x : Nat) : Bool := allR fs.length (bestAt xss fs x)
def bestHB (xss : List (Bool × List Int)) (fs : List (Int × Int)) : Bool := sharesB xss fs && allR fs.length (bestRow xss fs)

theorem shares_facts {xss : List (Bool × List Int)} {fs : List (Int × Int)} (h : sharesB xss fs = true) : xss.length = 2 ∧ rectB xss 2 6 100 = true ∧ fs.length = wid xss ∧ ∀ k (hk : k < fs.length), partB fs[k] = true := by
  simp only [sharesB, Bool.and_eq_true, decide_eq_true_eq, List.all_eq_true] at h
  obtain ⟨⟨h1, h2⟩, h3⟩ := h
  obtain ⟨h4, h5⟩ := points_facts h1
  exact ⟨h4, h5, h2, fun k hk => h3 _ (List.getElem_mem _)⟩
theorem ent_mul {xss : List (Bool × List Int)} (h : rectB xss 2 6 100 = true) {i j : Nat} (hi : i < xss.length) (hj : j < xss.length) {x y : Nat} (hx : x < wid xss) (hy : y < wid xss) : 0 ≤ ent xss i x * ent xss j y ∧ ent xss i x * ent xss j y ≤ 10000 := by
  have h1 := ent_bd h hi hx
  have h2 := ent_bd h hj hy
  refine ⟨Int.mul_nonneg h1.1 h2.1, ?_⟩
  have := Int.mul_le_mul h1.2 h2.2 h2.1 (by omega : (0 : Int) ≤ 100)
  omega

end Go.Proofs.YtiieikknhheffaaDoor.Ax

/-
  Contracts: products, differences of fractions (both programs). No condition.
-/
namespace Go.Proofs.YtiieikknhheffaaDoor.Ax
open Go Go.RowKit
set_option linter.unusedSimpArgs false

noncomputable def mTimes : List AV → Option AV := mk (fun _ => True) (fun (p : (Int) × (Int) × (Int) × (Int)) => [frac (p.1, p.2.1), frac (p.2.2.1, p.2.2.2)]) (fun p => .tup [.agg [.v (.int .i64 (mulF (p.1, p.2.1) (p.2.2.1, p.2.2.2)).1.1), .v (.int .i64 (mulF (p.1, p.2.1) (p.2.2.1, p.2.2.2)).1.2)], .v (.bool (mulF (p.1, p.2.1) (p.2.2.1, p.2.2.2)).2)])
theorem mTimes_at (a : Int) (b : Int) (c : Int) (d : Int) : mTimes [.agg [.v (.int .i64 a), .v (.int .i64 b)], .agg [.v (.int .i64 c), .v (.int .i64 d)]] = some (.tup [.agg [.v (.int .i64 (mulF (a, b) (c, d)).1.1), .v (.int .i64 (mulF (a, b) (c, d)).1.2)], .v (.bool (mulF (a, b) (c, d)).2)]) :=
  mk_eq (enc := fun (p : (Int) × (Int) × (Int) × (Int)) => [frac (p.1, p.2.1), frac (p.2.2.1, p.2.2.2)]) (x := (a, b, c, d)) (by rintro ⟨a0, a1, a2, a3⟩ ⟨b0, b1, b2, b3⟩ h; simp [ints, intss, int, bool, row, frac, fracs, map_int_inj, map_row_inj, frac_inj, map_frac_inj] at h; simp [h]) trivial

noncomputable def mMinus : List AV → Option AV := mk (fun p => fracOk (p.2.2.1, p.2.2.2) = true) (fun (p : (Int) × (Int) × (Int) × (Int)) => [frac (p.1, p.2.1), frac (p.2.2.1, p.2.2.2)]) (fun p => .tup [.agg [.v (.int .i64 (subF (p.1, p.2.1) (p.2.2.1, p.2.2.2)).1.1), .v (.int .i64 (subF (p.1, p.2.1) (p.2.2.1, p.2.2.2)).1.2)], .v (.bool (subF (p.1, p.2.1) (p.2.2.1, p.2.2.2)).2)])
theorem mMinus_at (a : Int) (b : Int) (c : Int) (d : Int) (hpre : fracOk (c, d) = true) : mMinus [.agg [.v (.int .i64 a), .v (.int .i64 b)], .agg [.v (.int .i64 c), .v (.int .i64 d)]] = some (.tup [.agg [.v (.int .i64 (subF (a, b) (c, d)).1.1), .v (.int .i64 (subF (a, b) (c, d)).1.2)], .v (.bool (subF (a, b) (c, d)).2)]) :=
  mk_eq (enc := fun (p : (Int) × (Int) × (Int) × (Int)) => [frac (p.1, p.2.1), frac (p.2.2.1, p.2.2.2)]) (x := (a, b, c, d)) (by rintro ⟨a0, a1, a2, a3⟩ ⟨b0, b1, b2, b3⟩ h; simp [ints, intss, int, bool, row, frac, fracs, map_int_inj, map_row_inj, frac_inj, map_frac_inj] at h; simp [h]) hpre
end Go.Proofs.YtiieikknhheffaaDoor.Ax

/-
  Contracts: the worth of an award, what a person's pieces are worth (both programs). No condition.
-/
namespace Go.Proofs.YtiieikknhheffaaDoor.Ax
open Go Go.RowKit
set_option linter.unusedSimpArgs false

theorem ent_get {xss : List (Bool × List Int)} {i : Nat} (hi : i < xss.length) {k : Int} (hk : k.toNat < xss[i].2.length) : xss[i].2[k.toNat]? = some (ent xss i k) := by
  unfold ent; simp [List.getD_eq_getElem?_getD, hi, hk]

/-- The worth of the first k things of an award. -/
def awTo (xss : List (Bool × List Int)) (aw : List Int) : Nat → Int
  | 0 => 0
  | k + 1 => if 0 ≤ aw.getD k 0 then IntKind.i64.wrap (awTo xss aw k + ent xss k (aw.getD k 0)) else awTo xss aw k

noncomputable def mAwW : List AV → Option AV := mk (fun p => p.2.2.2.length ≤ p.2.1.length ∧ ∀ i, i < p.2.2.2.length → p.2.2.2.getD i 0 < ((p.2.1.getD i (true, [])).2.length : Int)) (fun (p : (Bool) × (List (Bool × List Int)) × (Bool) × (List Int)) => [intss p.1 p.2.1, ints p.2.2.1 p.2.2.2]) (fun p => int (awTo p.2.1 p.2.2.2 p.2.2.2.length))
theorem mAwW_at (nl : Bool) (xss : List (Bool × List Int)) (nl' : Bool) (aw : List Int) (hpre : aw.length ≤ xss.length ∧ ∀ i, i < aw.length → aw.getD i 0 < ((xss.getD i (true, [])).2.length : Int)) : mAwW [.sl nl 1 (xss.map row), .sl nl' 1 (aw.map int)] = some (.v (.int .i64 (awTo xss aw aw.length))) :=
  mk_eq (enc := fun (p : (Bool) × (List (Bool × List Int)) × (Bool) × (List Int)) => [intss p.1 p.2.1, ints p.2.2.1 p.2.2.2]) (x := (nl, xss, nl', aw)) (by rintro ⟨a0, a1, a2, a3⟩ ⟨b0, b1, b2, b3⟩ h; simp [ints, intss, int, bool, row, frac, fracs, map_int_inj, map_row_inj, frac_inj, map_frac_inj] at h; simp [h]) hpre

theorem awW_pre {xss : List (Bool × List Int)} {aw : List Int} (h : awardB xss aw = true) : aw.length ≤ xss.length ∧ ∀ i, i < aw.length → aw.getD i 0 < ((xss.getD i (true, [])).2.length : Int) := by
  simp only [awardB, Bool.and_eq_true, decide_eq_true_eq] at h
  obtain ⟨⟨⟨h1, h2⟩, h3⟩, _⟩ := h
  refine ⟨by omega, fun i hi => ?_⟩
  have := (allIn_at h3 hi).2
  have hr := (rect_row h1 (i := i) (by omega)).1
  rw [getD_at hi, List.getD_eq_getElem?_getD, List.getElem?_eq_getElem (by omega)]
  simp only [Option.getD_some]; omega

noncomputable def mAwWorth : List AV → Option AV := mk (fun _ => True) (fun (p : (Bool) × (List (Bool × List Int)) × (Bool) × (List Int)) => [intss p.1 p.2.1, ints p.2.2.1 p.2.2.2]) (fun p => int (if awardB p.2.1 p.2.2.2 = true then awTo p.2.1 p.2.2.2 p.2.2.2.length else -1))
theorem mAwWorth_at (nl : Bool) (xss : List (Bool × List Int)) (nl' : Bool) (aw : List Int) : mAwWorth [.sl nl 1 (xss.map row), .sl nl' 1 (aw.map int)] = some (.v (.int .i64 (if awardB xss aw = true then awTo xss aw aw.length else -1))) :=
  mk_eq (enc := fun (p : (Bool) × (List (Bool × List Int)) × (Bool) × (List Int)) => [intss p.1 p.2.1, ints p.2.2.1 p.2.2.2]) (x := (nl, xss, nl', aw)) (by rintro ⟨a0, a1, a2, a3⟩ ⟨b0, b1, b2, b3⟩ h; simp [ints, intss, int, bool, row, frac, fracs, map_int_inj, map_row_inj, frac_inj, map_frac_inj] at h; simp [h]) trivial

end Go.Proofs.YtiieikknhheffaaDoor.Ax

/-
  Contracts: divisions of a strip, what goods are worth to a person, the envy of pieces (both programs). No condition.
-/
namespace Go.Proofs.YtiieikknhheffaaDoor.Ax
open Go Go.RowKit
set_option linter.unusedSimpArgs false

/-- What the first m goods are worth to person i, of those that k gets. -/
def woTo (xss : List (Bool × List Int)) (l : List Int) (i : Nat) (k : Int) : Nat → Int
  | 0 => 0
  | m + 1 => if l.getD m 0 = k then IntKind.i64.wrap (woTo xss l i k m + ent xss i m) else woTo xss l i k m
def wo (xss : List (Bool × List Int)) (l : List Int) (i : Nat) (k : Int) : Int := woTo xss l i k l.length

noncomputable def mWorth : List AV → Option AV := mk (fun p => 0 ≤ p.2.2.2.2.1 ∧ p.2.2.2.2.1.toNat < p.2.1.length ∧ p.2.2.2.1.length ≤ (p.2.1.getD p.2.2.2.2.1.toNat (true, [])).2.length) (fun (p : (Bool) × (List (Bool × List Int)) × (Bool) × (List Int) × (Int) × (Int)) => [intss p.1 p.2.1, ints p.2.2.1 p.2.2.2.1, int p.2.2.2.2.1, int p.2.2.2.2.2]) (fun p => int (wo p.2.1 p.2.2.2.1 p.2.2.2.2.1.toNat p.2.2.2.2.2))
theorem mWorth_at (nl : Bool) (xss : List (Bool × List Int)) (nl' : Bool) (l : List Int) (i : Int) (k : Int) (hpre : 0 ≤ i ∧ i.toNat < xss.length ∧ l.length ≤ (xss.getD i.toNat (true, [])).2.length) : mWorth [.sl nl 1 (xss.map row), .sl nl' 1 (l.map int), .v (.int .i64 i), .v (.int .i64 k)] = some (.v (.int .i64 (wo xss l i.toNat k))) :=
  mk_eq (enc := fun (p : (Bool) × (List (Bool × List Int)) × (Bool) × (List Int) × (Int) × (Int)) => [intss p.1 p.2.1, ints p.2.2.1 p.2.2.2.1, int p.2.2.2.2.1, int p.2.2.2.2.2]) (x := (nl, xss, nl', l, i, k)) (by rintro ⟨a0, a1, a2, a3, a4, a5⟩ ⟨b0, b1, b2, b3, b4, b5⟩ h; simp [ints, intss, int, bool, row, frac, fracs, map_int_inj, map_row_inj, frac_inj, map_frac_inj] at h; simp [h]) hpre

noncomputable def mEnvy : List AV → Option AV := mk (fun p => 0 ≤ p.2.2.2.2.1 ∧ p.2.2.2.2.1.toNat < p.2.1.length ∧ p.2.2.2.1.length ≤ (p.2.1.getD p.2.2.2.2.1.toNat (true, [])).2.length) (fun (p : (Bool) × (List (Bool × List Int)) × (Bool) × (List Int) × (Int) × (Int)) => [intss p.1 p.2.1, ints p.2.2.1 p.2.2.2.1, int p.2.2.2.2.1, int p.2.2.2.2.2]) (fun p => int (max 0 (IntKind.i64.wrap (wo p.2.1 p.2.2.2.1 p.2.2.2.2.1.toNat p.2.2.2.2.2 - wo p.2.1 p.2.2.2.1 p.2.2.2.2.1.toNat p.2.2.2.2.1))))
theorem mEnvy_at (nl : Bool) (xss : List (Bool × List Int)) (nl' : Bool) (l : List Int) (i : Int) (k : Int) (hpre : 0 ≤ i ∧ i.toNat < xss.length ∧ l.length ≤ (xss.getD i.toNat (true, [])).2.length) : mEnvy [.sl nl 1 (xss.map row), .sl nl' 1 (l.map int), .v (.int .i64 i), .v (.int .i64 k)] = some (.v (.int .i64 (max 0 (IntKind.i64.wrap (wo xss l i.toNat k - wo xss l i.toNat i))))) :=
  mk_eq (enc := fun (p : (Bool) × (List (Bool × List Int)) × (Bool) × (List Int) × (Int) × (Int)) => [intss p.1 p.2.1, ints p.2.2.1 p.2.2.2.1, int p.2.2.2.2.1, int p.2.2.2.2.2]) (x := (nl, xss, nl', l, i, k)) (by rintro ⟨a0, a1, a2, a3, a4, a5⟩ ⟨b0, b1, b2, b3, b4, b5⟩ h; simp [ints, intss, int, bool, row, frac, fracs, map_int_inj, map_row_inj, frac_inj, map_frac_inj] at h; simp [h]) hpre

/-- Place i of a list is the first of its owner's, or stands behind one of the same owner's. -/
def divAt (l : List Int) (i : Nat) : Bool := (decide (i ≠ 0) && decide (l.getD (i - 1) 0 = l.getD i 0)) || !decide (0 ≤ pos (l.take i) (l.getD i 0))
def divB (xss : List (Bool × List Int)) (l : List Int) : Bool := rectB xss 3 10 100 && decide (l.length = wid xss) && allIn 0 (xss.length - 1) l && allR l.length (divAt l)

theorem divAt_zero {l : List Int} : divAt l 0 = true := by simp [divAt, pos, posFrom]

noncomputable def mDiv : List AV → Option AV := mk (fun _ => True) (fun (p : (Bool) × (List (Bool × List Int)) × (Bool) × (List Int)) => [intss p.1 p.2.1, ints p.2.2.1 p.2.2.2]) (fun p => bool (divB p.2.1 p.2.2.2))
theorem mDiv_at (nl : Bool) (xss : List (Bool × List Int)) (nl' : Bool) (l : List Int) : mDiv [.sl nl 1 (xss.map row), .sl nl' 1 (l.map int)] = some (.v (.bool (divB xss l))) :=
  mk_eq (enc := fun (p : (Bool) × (List (Bool × List Int)) × (Bool) × (List Int)) => [intss p.1 p.2.1, ints p.2.2.1 p.2.2.2]) (x := (nl, xss, nl', l)) (by rintro ⟨a0, a1, a2, a3⟩ ⟨b0, b1, b2, b3⟩ h; simp [ints, intss, int, bool, row, frac, fracs, map_int_inj, map_row_inj, frac_inj, map_frac_inj] at h; simp [h]) trivial

end Go.Proofs.YtiieikknhheffaaDoor.Ax

/-
  Contracts: IsDivision of the reference, PieceEnvy (both programs). No condition.
-/
namespace Go.Proofs.YtiieikknhheffaaDoor.Ax
open Go Go.RowKit
set_option linter.unusedSimpArgs false

theorem posFrom_app {v : Int} {xs ys : List Int} : ∀ {k : Nat}, posFrom v (xs ++ ys) k = if 0 ≤ posFrom v xs k then posFrom v xs k else posFrom v ys (k + xs.length) := by
  induction xs with
  | nil => intro k; simp [posFrom]
  | cons x xs ih =>
    intro k
    simp only [List.cons_append, posFrom]
    by_cases e : x = v
    · simp [e]
    · simp only [if_neg e]
      rw [ih]; simp [Nat.add_assoc, Nat.add_comm 1]
theorem pos_snoc {v x : Int} {xs : List Int} : decide (0 ≤ pos (xs ++ [x]) v) = (decide (0 ≤ pos xs v) || decide (x = v)) := by
  unfold pos
  rw [posFrom_app]
  by_cases h : 0 ≤ posFrom v xs 0
  · simp [h]
  · by_cases e : x = v
    · simp [h, posFrom, e]
    · simp [h, posFrom, e]

/-- Whose pieces were met among the first k. -/
def seenL (n : Nat) (l : List Int) (k : Nat) : List Bool := (List.range n).map fun (v : Nat) => decide (0 ≤ pos (l.take k) v)
theorem seenL_zero {n : Nat} {l : List Int} : seenL n l 0 = List.replicate n false := by
  unfold seenL
  apply List.ext_getElem
  · simp
  · intro i h1 h2; simp [pos, posFrom]
theorem seenL_len {n : Nat} {l : List Int} {k : Nat} : (seenL n l k).length = n := by simp [seenL]
theorem seenL_at {n : Nat} {l : List Int} {k i : Nat} (h : i < (seenL n l k).length) : (seenL n l k)[i] = decide (0 ≤ pos (l.take k) (i : Int)) := by simp [seenL]
theorem seenL_get {n : Nat} {l : List Int} {k : Nat} {x : Int} (h0 : 0 ≤ x) (h : x.toNat < n) : (seenL n l k)[x.toNat]? = some (decide (0 ≤ pos (l.take k) x)) := by
  unfold seenL
  have e : ((x.toNat : Nat) : Int) = x := by omega
  simp [h, e]
theorem seenL_set {n : Nat} {l : List Int} {k : Nat} (hk : k < l.length) (h0 : 0 ≤ l[k]) (_h : l[k].toNat < n) : ((seenL n l k).map bool).set l[k].toNat (bool true) = (seenL n l (k + 1)).map bool := by
  rw [← List.map_set]
  congr 1
  apply List.ext_getElem
  · simp [seenL]
  · intro i h1 h2
    rw [List.getElem_set]
    simp only [seenL, List.getElem_map, List.getElem_range, List.take_succ_eq_append_getElem hk, pos_snoc]
    by_cases e : l[k].toNat = i
    · simp [← e]; omega
    · have : l[k] ≠ (i : Int) := by omega
      simp [e, this]

theorem div_rect {xss : List (Bool × List Int)} {l : List Int} (h : divB xss l = true) : rectB xss 3 10 100 = true ∧ l.length = wid xss := by
  simp only [divB, Bool.and_eq_true, decide_eq_true_eq] at h
  exact ⟨h.1.1.1, h.1.1.2⟩

theorem wo_pre {xss : List (Bool × List Int)} {l : List Int} {a b c : Int} (h : rectB xss a b c = true) (hl : l.length ≤ wid xss) {i : Nat} (hi : i < xss.length) : (0 : Int) ≤ (i : Int) ∧ ((i : Int)).toNat < xss.length ∧ l.length ≤ (xss.getD ((i : Int)).toNat (true, [])).2.length := by
  have hr := (rect_row h hi).1
  refine ⟨by omega, by simpa using hi, ?_⟩
  rw [Int.toNat_natCast, List.getD_eq_getElem?_getD, List.getElem?_eq_getElem hi]
  simp only [Option.getD_some]; omega

/-- How much person i envies person k. -/
def envD (xss : List (Bool × List Int)) (l : List Int) (i k : Nat) : Int := IntKind.i64.wrap (wo xss l i k - wo xss l i i)
/-- The most that person i envies one of the first k, and m. -/
def peRow (xss : List (Bool × List Int)) (l : List Int) (i : Nat) (m : Int) : Nat → Int
  | 0 => m
  | k + 1 => max (peRow xss l i m k) (envD xss l i k)
def peTo (xss : List (Bool × List Int)) (l : List Int) : Nat → Int
  | 0 => 0
  | i + 1 => peRow xss l i (peTo xss l i) xss.length
theorem peRow_nn {xss : List (Bool × List Int)} {l : List Int} {i : Nat} {m : Int} (h : 0 ≤ m) : ∀ k, 0 ≤ peRow xss l i m k
  | 0 => h
  | k + 1 => by have := peRow_nn (xss := xss) (l := l) (i := i) h k; rw [peRow]; omega
theorem peTo_nn {xss : List (Bool × List Int)} {l : List Int} : ∀ i, 0 ≤ peTo xss l i
  | 0 => by simp [peTo]
  | i + 1 => peRow_nn (peTo_nn i) _

noncomputable def mPiece : List AV → Option AV := mk (fun _ => True) (fun (p : (Bool) × (List (Bool × List Int)) × (Bool) × (List Int)) => [intss p.1 p.2.1, ints p.2.2.1 p.2.2.2]) (fun p => int (if divB p.2.1 p.2.2.2 = true then peTo p.2.1 p.2.2.2 p.2.1.length else -1))
theorem mPiece_at (nl : Bool) (xss : List (Bool × List Int)) (nl' : Bool) (l : List Int) : mPiece [.sl nl 1 (xss.map row), .sl nl' 1 (l.map int)] = some (.v (.int .i64 (if divB xss l = true then peTo xss l xss.length else -1))) :=
  mk_eq (enc := fun (p : (Bool) × (List (Bool × List Int)) × (Bool) × (List Int)) => [intss p.1 p.2.1, ints p.2.2.1 p.2.2.2]) (x := (nl, xss, nl', l)) (by rintro ⟨a0, a1, a2, a3⟩ ⟨b0, b1, b2, b3⟩ h; simp [ints, intss, int, bool, row, frac, fracs, map_int_inj, map_row_inj, frac_inj, map_frac_inj] at h; simp [h]) trivial

end Go.Proofs.YtiieikknhheffaaDoor.Ax

/-
  Contracts: RankingOk (both programs). No condition.
-/
namespace Go.Proofs.YtiieikknhheffaaDoor.Ax
open Go Go.RowKit
set_option linter.unusedSimpArgs false

/-- Number k of the list is a candidate of m who was not met before. -/
def rankAt (m : Int) (l : List Int) (k : Nat) : Bool := inR 0 (m - 1) (l.getD k 0) && !decide (0 ≤ pos (l.take k) (l.getD k 0))
def rankB (m : Int) (l : List Int) : Bool := inR 1 5 m && decide (l.length = m) && allR l.length (rankAt m l)

noncomputable def mRank : List AV → Option AV := mk (fun _ => True) (fun (p : (Int) × (Bool) × (List Int)) => [int p.1, ints p.2.1 p.2.2]) (fun p => bool (rankB p.1 p.2.2))
theorem mRank_at (m : Int) (nl : Bool) (l : List Int) : mRank [.v (.int .i64 m), .sl nl 1 (l.map int)] = some (.v (.bool (rankB m l))) :=
  mk_eq (enc := fun (p : (Int) × (Bool) × (List Int)) => [int p.1, ints p.2.1 p.2.2]) (x := (m, nl, l)) (by rintro ⟨a0, a1, a2⟩ ⟨b0, b1, b2⟩ h; simp [ints, intss, int, bool, row, frac, fracs, map_int_inj, map_row_inj, frac_inj, map_frac_inj] at h; simp [h]) trivial

theorem rankAt_at {m : Int} {l : List Int} {k : Nat} (h : k < l.length) : rankAt m l k = (inR 0 (m - 1) l[k] && !decide (0 ≤ pos (l.take k) l[k])) := by unfold rankAt; rw [getD_at h]

end Go.Proofs.YtiieikknhheffaaDoor.Ax

/-
  Contracts: comparisons of fractions (both programs); a ranking names every candidate. No condition.
-/
namespace Go.Proofs.YtiieikknhheffaaDoor.Ax
open Go Go.RowKit
set_option linter.unusedSimpArgs false

def cmpI (x y : Int) : Int := if x < y then -1 else if y < x then 1 else 0
noncomputable def mCmpI : List AV → Option AV := mk (fun _ => True) (fun (p : (Int) × (Int)) => [int p.1, int p.2]) (fun p => int (cmpI p.1 p.2))
theorem mCmpI_at (x : Int) (y : Int) : mCmpI [.v (.int .i64 x), .v (.int .i64 y)] = some (.v (.int .i64 (cmpI x y))) :=
  mk_eq (enc := fun (p : (Int) × (Int)) => [int p.1, int p.2]) (x := (x, y)) (by rintro ⟨a0, a1⟩ ⟨b0, b1⟩ h; simp [ints, intss, int, bool, row, frac, fracs, map_int_inj, map_row_inj, frac_inj, map_frac_inj] at h; simp [h]) trivial
noncomputable def mNaN : List AV → Option AV := mk (fun _ => True) (fun (p : (Int)) => [int p]) (fun _ => bool false)
theorem mNaN_at (x : Int) : mNaN [.v (.int .i64 x)] = some (.v (.bool false)) :=
  mk_eq (enc := fun (p : (Int)) => [int p]) (x := (x)) (by rintro a0 b0 h; simp [ints, intss, int, bool, row, frac, fracs, map_int_inj, map_row_inj, frac_inj, map_frac_inj] at h; simp [h]) trivial
theorem isNaN_ok : FnOk Tryd.prog 73 mNaN := by
  refine mk_ok fun x _ => ?_
  have hG : FnsOk Tryd.prog [] := .nil
  refine callOk_awp (ctx_ok eqOk hG) mixed (live := [true, false, true]) (dt := []) Tryd.func73 rfl (by kernel_rfl) (by kernel_rfl) fun w0 hlens => ?_
  simp [Tryd.f73, List.range, List.range.loop, ints, intss, int, bool, row, frac, fracs, ← List.map_take, ← List.map_drop]
set_option maxHeartbeats 1000000 in
theorem cmpCompare_ok : FnOk Tryd.prog 66 mCmpI := by
  refine mk_ok fun ⟨x, y⟩ _ => ?_
  have hG : FnsOk Tryd.prog [(73, mNaN)] := (.cons isNaN_ok .nil)
  refine callOk_awp (ctx_ok eqOk hG) mixed (live := [true, true, false, false, true, true, true, false, false, false, false, true, true, true, false, false, true, false, false, true]) (dt := []) Tryd.func66 rfl (by kernel_rfl) (by kernel_rfl) fun w0 hlens => ?_
  by_cases h1 : x < y
  · simp [Tryd.f66, List.range, List.range.loop, ints, intss, int, bool, row, frac, fracs, ← List.map_take, ← List.map_drop, mNaN_at, h1, cmpI]
  · by_cases h2 : y < x <;> simp [Tryd.f66, List.range, List.range.loop, ints, intss, int, bool, row, frac, fracs, ← List.map_take, ← List.map_drop, mNaN_at, h1, h2, cmpI]

noncomputable def mCmpF : List AV → Option AV := mk (fun _ => True) (fun (p : (Int) × (Int) × (Int) × (Int)) => [frac (p.1, p.2.1), frac (p.2.2.1, p.2.2.2)]) (fun p => int (cmpF (p.1, p.2.1) (p.2.2.1, p.2.2.2)))
theorem mCmpF_at (a : Int) (b : Int) (c : Int) (d : Int) : mCmpF [.agg [.v (.int .i64 a), .v (.int .i64 b)], .agg [.v (.int .i64 c), .v (.int .i64 d)]] = some (.v (.int .i64 (cmpF (a, b) (c, d)))) :=
  mk_eq (enc := fun (p : (Int) × (Int) × (Int) × (Int)) => [frac (p.1, p.2.1), frac (p.2.2.1, p.2.2.2)]) (x := (a, b, c, d)) (by rintro ⟨a0, a1, a2, a3⟩ ⟨b0, b1, b2, b3⟩ h; simp [ints, intss, int, bool, row, frac, fracs, map_int_inj, map_row_inj, frac_inj, map_frac_inj] at h; simp [h]) trivial
noncomputable def mLessF : List AV → Option AV := mk (fun _ => True) (fun (p : (Int) × (Int) × (Int) × (Int)) => [frac (p.1, p.2.1), frac (p.2.2.1, p.2.2.2)]) (fun p => bool (decide (cmpF (p.1, p.2.1) (p.2.2.1, p.2.2.2) = -1)))
theorem mLessF_at (a : Int) (b : Int) (c : Int) (d : Int) : mLessF [.agg [.v (.int .i64 a), .v (.int .i64 b)], .agg [.v (.int .i64 c), .v (.int .i64 d)]] = some (.v (.bool (decide (cmpF (a, b) (c, d) = -1)))) :=
  mk_eq (enc := fun (p : (Int) × (Int) × (Int) × (Int)) => [frac (p.1, p.2.1), frac (p.2.2.1, p.2.2.2)]) (x := (a, b, c, d)) (by rintro ⟨a0, a1, a2, a3⟩ ⟨b0, b1, b2, b3⟩ h; simp [ints, intss, int, bool, row, frac, fracs, map_int_inj, map_row_inj, frac_inj, map_frac_inj] at h; simp [h]) trivial
theorem addF_frac {x y : Int × Int} (h : (addF x y).2 = true) : fracOk (addF x y).1 = true ∧ fracOk x = true ∧ fracOk y = true := by
  unfold addF mkF at h ⊢
  split
  · rename_i h1
    rw [if_pos h1] at h
    simp only [Bool.and_eq_true] at h1
    split
    · rename_i h2; exact ⟨h2, h1.1, h1.2⟩
    · rename_i h2; rw [if_neg h2] at h; simp at h
  · rename_i h1; rw [if_neg h1] at h; simp at h
theorem cmpF_neg {x y : Int × Int} (hx : fracOk x = true) (hy : fracOk y = true) : cmpF x y < 0 ↔ cmpF x y = -1 := by
  unfold cmpF; rw [hx, hy]
  simp only [Bool.and_true, if_true]
  split
  · simp
  · split <;> simp

theorem nodup_le : ∀ {L M : List Nat}, L.Nodup → (∀ x ∈ L, x ∈ M) → L.length ≤ M.length
  | [], _, _, _ => by simp
  | x :: L, M, h, hs => by
    rw [List.nodup_cons] at h
    have hx := hs x (by simp)
    have := nodup_le (L := L) (M := M.erase x) h.2 fun y hy => (List.mem_erase_of_ne (fun (e : y = x) => h.1 (by rw [← e]; exact hy))).2 (hs y (by simp [hy]))
    rw [List.length_erase_of_mem hx] at this
    have hp := List.length_pos_of_mem hx
    simp only [List.length_cons]; omega

theorem posFrom_iff {v : Int} : ∀ {xs : List Int} {k : Nat}, 0 ≤ posFrom v xs k ↔ v ∈ xs
  | [], k => by simp [posFrom]
  | x :: xs, k => by
    rw [posFrom]
    by_cases e : x = v
    · rw [if_pos e]; subst e; simp
    · rw [if_neg e, posFrom_iff, List.mem_cons]; exact ⟨.inr, fun h => h.resolve_left fun e' => e e'.symm⟩
theorem pos_iff {v : Int} {xs : List Int} : 0 ≤ pos xs v ↔ v ∈ xs := posFrom_iff

/-- What a valid ranking is. -/
theorem rank_facts {m : Int} {l : List Int} (h : rankB m l = true) : 1 ≤ m ∧ m ≤ 5 ∧ (l.length : Int) = m ∧ (∀ i (hi : i < l.length), 0 ≤ l[i] ∧ l[i] < m) ∧ l.Nodup := by
  simp only [rankB, Bool.and_eq_true, decide_eq_true_eq, inR] at h
  obtain ⟨⟨⟨h1, h2⟩, h3⟩, h4⟩ := h
  have hat : ∀ i (hi : i < l.length), (0 ≤ l[i] ∧ l[i] < m) ∧ l[i] ∉ l.take i := fun i hi => by
    have := List.all_eq_true.1 h4 i (by simpa using hi)
    rw [rankAt_at hi] at this
    simp only [Bool.and_eq_true, inR, decide_eq_true_eq, Bool.not_eq_true', decide_eq_false_iff_not, pos_iff] at this
    exact ⟨⟨this.1.1, by omega⟩, this.2⟩
  refine ⟨h1, h2, h3, fun i hi => (hat i hi).1, ?_⟩
  rw [List.nodup_iff_pairwise_ne, List.pairwise_iff_getElem]
  intro i j hi hj hij e
  exact (hat j hj).2 (List.mem_iff_getElem.2 ⟨i, by simp; omega, by rw [List.getElem_take]; exact e⟩)
/-- A ranking names every candidate. -/
theorem rank_all {m : Int} {l : List Int} (h : rankB m l = true) {i : Nat} (hi : (i : Int) < m) : ∃ k, ∃ hk : k < l.length, l[k] = i := by
  obtain ⟨h1, h2, h3, h4, h5⟩ := rank_facts h
  apply Classical.byContradiction
  intro hno
  have hin : ∀ x ∈ l, 0 ≤ x ∧ x < m := fun x hx => by
    obtain ⟨j, hj, rfl⟩ := List.getElem_of_mem hx; exact h4 j hj
  have hni : (i : Int) ∉ l := fun hx => by
    obtain ⟨j, hj, e⟩ := List.getElem_of_mem hx; exact hno ⟨j, hj, e⟩
  have hnd : (i :: l.map Int.toNat).Nodup := by
    rw [List.nodup_cons]
    refine ⟨fun hx => ?_, ?_⟩
    · obtain ⟨x, hx, e⟩ := List.mem_map.1 hx
      have := hin x hx
      exact hni (by rw [← e, Int.toNat_of_nonneg this.1]; exact hx)
    · rw [List.nodup_iff_pairwise_ne, List.pairwise_map]
      rw [List.nodup_iff_pairwise_ne] at h5
      refine List.Pairwise.imp_of_mem (fun {a b} ha hb hab e => hab ?_) h5
      have := hin a ha; have := hin b hb; omega
  have := nodup_le (M := List.range l.length) hnd fun x hx => by
    rw [List.mem_range]
    rcases List.mem_cons.1 hx with rfl | hx
    · omega
    · obtain ⟨y, hy, rfl⟩ := List.mem_map.1 hx
      have := hin y hy; omega
  simp at this
  omega

end Go.Proofs.YtiieikknhheffaaDoor.Ax
