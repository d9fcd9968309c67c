/-
  Fractions of a common divisor: sums, differences and quotients of them. No condition.
-/
import Derived.Test.YtkfgmpmeipilnaaCG13
import Derived.Test.YtkfgmpmeipilnaaCG31
import Derived.Test.YtkfgmpmeipilnaaCG38
namespace Go.Proofs.Ytkfgmpmeipilnaa.Ax
open Go Go.RowKit
set_option linter.unusedSimpArgs false

/-- a parts of D, in the least terms. -/
def qd (a D : Int) : Int × Int := ((Rat.divInt a D).num, ((Rat.divInt a D).den : Int))

theorem red_num {t b : Int} (hb : 0 < b) : (Rat.divInt t b).num = t.tdiv (Int.gcd t b) ∧ ((Rat.divInt t b).den : Int) = b.tdiv (Int.gcd t b) := by
  obtain ⟨g1, g2⟩ := gcd_bd (x := t) (y := b) (by omega)
  have hd1 : (Int.gcd t b : Int) ∣ t := Int.gcd_dvd_left ..
  have hd2 : (Int.gcd t b : Int) ∣ b := Int.gcd_dvd_right ..
  constructor
  · rw [Rat.num_divInt]
    have hs : b.sign = 1 := Int.sign_eq_one_of_pos hb
    rw [hs, Int.one_mul, Int.gcd_comm]
    exact (Int.tdiv_eq_ediv_of_dvd hd1).symm
  · rw [Rat.den_divInt, if_neg (by omega)]
    rw [Int.tdiv_eq_ediv_of_dvd hd2, Int.natCast_ediv, Int.gcd_comm]
    congr 1
    omega

theorem mkF_qd {t b : Int} (hb : 0 < b) : mkF t b = if fracOk (qd t b) = true then (qd t b, true) else ((0, 0), false) := by
  obtain ⟨h1, h2⟩ := red_num (t := t) hb
  unfold mkF qd
  rw [h1, h2]

theorem qd_val {a D : Int} : val (qd a D) = Rat.divInt a D := by unfold val qd; exact Rat.num_divInt_den _
theorem qd_congr {a D b E : Int} (h : Rat.divInt a D = Rat.divInt b E) : qd a D = qd b E := by unfold qd; rw [h]

theorem qd_ok {a D : Int} (hD : 0 < D) (hD1 : D ≤ 1000000000) (ha : -1000000000 ≤ a ∧ a ≤ 1000000000) : fracOk (qd a D) = true := by
  obtain ⟨h1, h2⟩ := red_num (t := a) hD
  obtain ⟨g1, g2⟩ := gcd_bd (x := a) (y := D) (by omega)
  have hden : (1 : Int) ≤ (Rat.divInt a D).den := by have := (Rat.divInt a D).den_pos; omega
  have hde : ((Rat.divInt a D).den : Int) ≤ 1000000000 := by
    have := tdiv_bd (x := D) (y := Int.gcd a D) (m := 1000000000) (by omega) (by omega)
    rw [h2]; omega
  have hnu : -1000000000 ≤ (Rat.divInt a D).num ∧ (Rat.divInt a D).num ≤ 1000000000 := by
    have := tdiv_bd (x := a) (y := Int.gcd a D) (m := 1000000000) (by omega) (by omega)
    rw [h1]; omega
  have hco : Int.gcd (Rat.divInt a D).num ((Rat.divInt a D).den : Int) = 1 := by
    have := (Rat.divInt a D).reduced
    rw [Nat.coprime_iff_gcd_eq_one] at this
    rw [← this]; simp [Int.gcd]
  unfold fracOk qd
  simp only [Bool.and_eq_true, decide_eq_true_eq]
  refine ⟨⟨?_, ?_⟩, ?_⟩ <;> first | omega | simp [hco] | (exact_mod_cast hco)

/-- The parts, and what they are in the least terms. -/
theorem qd_parts {a D : Int} (hD : 0 < D) : ∃ g : Int, 0 < g ∧ (qd a D).1 * g = a ∧ (qd a D).2 * g = D := by
  obtain ⟨h1, h2⟩ := red_num (t := a) hD
  obtain ⟨g1, g2⟩ := gcd_bd (x := a) (y := D) (by omega)
  refine ⟨(Int.gcd a D : Int), by omega, ?_, ?_⟩
  · show (Rat.divInt a D).num * _ = a
    rw [h1]; exact Int.tdiv_mul_cancel (Int.gcd_dvd_left ..)
  · show ((Rat.divInt a D).den : Int) * _ = D
    rw [h2]; exact Int.tdiv_mul_cancel (Int.gcd_dvd_right ..)

theorem qd_scale {a D c : Int} (hc : 0 < c) : qd (c * a) (c * D) = qd a D := qd_congr (Rat.divInt_mul_left (by omega))
theorem qd_pos {a D : Int} (hD : 0 < D) : 0 < (qd a D).1 ↔ 0 < a := by
  obtain ⟨g, h0, h1, _⟩ := qd_parts (a := a) hD
  constructor
  · intro h
    have := Int.mul_pos h h0
    rw [h1] at this; exact this
  · intro h
    rcases Int.lt_or_le 0 (qd a D).1 with h2 | h2
    · exact h2
    · have := Int.mul_nonneg (show 0 ≤ -(qd a D).1 by omega) (show (0 : Int) ≤ g by omega)
      rw [Int.neg_mul, h1] at this
      omega
theorem qd_den {a D : Int} (hD : 0 < D) : 0 < (qd a D).2 := by
  obtain ⟨g, h0, _, h2⟩ := qd_parts (a := a) hD
  rcases Int.lt_or_le 0 (qd a D).2 with h | h
  · exact h
  · have := Int.mul_nonneg (show 0 ≤ -(qd a D).2 by omega) (show (0 : Int) ≤ g by omega)
    rw [Int.neg_mul, h2] at this
    omega

theorem add_divInt {a b D : Int} (hD : 0 < D) : Rat.divInt a D + Rat.divInt b D = Rat.divInt (a + b) D := by
  rw [Rat.divInt_add_divInt _ _ (by omega) (by omega)]
  have e : a * D + b * D = D * (a + b) := by rw [← Int.add_mul, Int.mul_comm]
  rw [e]
  exact Rat.divInt_mul_left (by omega)

theorem addF_qd {a b D : Int} (hD : 0 < D) (hD1 : D ≤ 1000000000) (ha : -1000000000 ≤ a ∧ a ≤ 1000000000) (hb : -1000000000 ≤ b ∧ b ≤ 1000000000) (hab : -1000000000 ≤ a + b ∧ a + b ≤ 1000000000) : addF (qd a D) (qd b D) = (qd (a + b) D, true) := by
  have h1 := qd_ok hD hD1 ha
  have h2 := qd_ok hD hD1 hb
  have h3 := qd_ok hD hD1 hab
  have p1 := qd_den (a := a) hD
  have p2 := qd_den (a := b) hD
  unfold addF
  rw [h1, h2]
  simp only [Bool.and_self, if_true]
  rw [mkF_qd (Int.mul_pos p1 p2)]
  have e : qd ((qd a D).1 * (qd b D).2 + (qd b D).1 * (qd a D).2) ((qd a D).2 * (qd b D).2) = qd (a + b) D := by
    refine qd_congr ?_
    rw [← Rat.divInt_add_divInt _ _ (by omega) (by omega)]
    have v1 : Rat.divInt (qd a D).1 (qd a D).2 = Rat.divInt a D := qd_val (a := a) (D := D)
    have v2 : Rat.divInt (qd b D).1 (qd b D).2 = Rat.divInt b D := qd_val (a := b) (D := D)
    rw [v1, v2, add_divInt hD]
  rw [e, if_pos h3]

theorem neg_qd {a D : Int} : (-(qd a D).1, (qd a D).2) = qd (-a) D := by
  unfold qd
  have : Rat.divInt (-a) D = -(Rat.divInt a D) := (Rat.neg_divInt _ _).symm
  rw [this]; rfl
theorem subF_qd {a b D : Int} (hD : 0 < D) (hD1 : D ≤ 1000000000) (ha : -1000000000 ≤ a ∧ a ≤ 1000000000) (hb : -1000000000 ≤ b ∧ b ≤ 1000000000) (hab : -1000000000 ≤ a - b ∧ a - b ≤ 1000000000) : subF (qd a D) (qd b D) = (qd (a - b) D, true) := by
  unfold subF
  rw [neg_qd, addF_qd hD hD1 ha (by omega) (by omega)]
  rfl

theorem cmpF_qd {a b D : Int} (hD : 0 < D) (hD1 : D ≤ 1000000000) (ha : -1000000000 ≤ a ∧ a ≤ 1000000000) (hb : -1000000000 ≤ b ∧ b ≤ 1000000000) : cmpF (qd a D) (qd b D) = cmpI a b := by
  have h1 := qd_ok hD hD1 ha
  have h2 := qd_ok hD hD1 hb
  obtain ⟨g1, p1, e1, f1⟩ := qd_parts (a := a) hD
  obtain ⟨g2, p2, e2, f2⟩ := qd_parts (a := b) hD
  have key : ∀ x y : Int, (x = (qd a D).1 * (qd b D).2) → (y = (qd b D).1 * (qd a D).2) → (x < y ↔ a < b) ∧ (y < x ↔ b < a) := by
    intro x y hx hy
    have k1 : x * (g1 * g2) = a * D := by
      have : a * D = ((qd a D).1 * g1) * ((qd b D).2 * g2) := by rw [e1, f2]
      rw [hx, this]; simp only [Int.mul_assoc, Int.mul_left_comm, Int.mul_comm]
    have k2 : y * (g1 * g2) = b * D := by
      have : b * D = ((qd b D).1 * g2) * ((qd a D).2 * g1) := by rw [e2, f1]
      rw [hy, this]; simp only [Int.mul_assoc, Int.mul_left_comm, Int.mul_comm]
    have hg : 0 < g1 * g2 := Int.mul_pos p1 p2
    constructor
    · rw [← Int.mul_lt_mul_right hg, k1, k2, Int.mul_lt_mul_right hD]
    · rw [← Int.mul_lt_mul_right hg, k1, k2, Int.mul_lt_mul_right hD]
  obtain ⟨k1, k2⟩ := key _ _ rfl rfl
  unfold cmpF cmpI
  rw [h1, h2]
  simp only [Bool.and_self, if_true, k1, k2]

theorem divF_qd {a D k : Int} (hD : 0 < D) (hk : 0 < k) (hDk : D * k ≤ 1000000000) (ha : -1000000000 ≤ a ∧ a ≤ 1000000000) : mkF (qd a D).1 ((qd a D).2 * k) = (qd a (D * k), true) := by
  have p1 := qd_den (a := a) hD
  rw [mkF_qd (Int.mul_pos p1 hk)]
  have h3 := qd_ok (Int.mul_pos hD hk) hDk ha
  have e : qd (qd a D).1 ((qd a D).2 * k) = qd a (D * k) := by
    obtain ⟨g, p2, e1, f1⟩ := qd_parts (a := a) hD
    have h := qd_scale (a := (qd a D).1) (D := (qd a D).2 * k) p2
    rw [← h]
    have e2 : g * (qd a D).1 = a := by rw [Int.mul_comm]; exact e1
    have e3 : g * ((qd a D).2 * k) = D * k := by rw [← Int.mul_assoc, Int.mul_comm g]; rw [f1]
    rw [e2, e3]
  rw [e, if_pos h3]

end Go.Proofs.Ytkfgmpmeipilnaa.Ax
