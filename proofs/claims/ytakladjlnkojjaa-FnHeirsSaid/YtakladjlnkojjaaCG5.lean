/-
  Valid fractions of at least 0 that come to 1 are at most 1 each; LotteryOk of the reference. No condition.
-/
import Derived.Test.YtakladjlnkojjaaCG4
import Derived.Test.YtakladjlnkojjaaCG3
namespace Go.Proofs.Ytakladjlnkojjaa.Ax
open Go Go.RowKit
set_option linter.unusedSimpArgs false

def val (x : Int × Int) : Rat := Rat.divInt x.1 x.2

theorem mkF_val {t b : Int} (hb : 0 < b) (h : (mkF t b).2 = true) : val (mkF t b).1 = Rat.divInt t b ∧ fracOk (mkF t b).1 = true := by
  unfold mkF at h ⊢
  split at h
  · rename_i hf
    rw [if_pos hf]
    obtain ⟨g1, g2⟩ := gcd_bd (x := t) (y := b) (by omega)
    refine ⟨?_, hf⟩
    unfold val
    simp only
    have e1 : (Int.gcd t b : Int) * t.tdiv (Int.gcd t b) = t := Int.mul_tdiv_cancel' (Int.gcd_dvd_left ..)
    have e2 : (Int.gcd t b : Int) * b.tdiv (Int.gcd t b) = b := Int.mul_tdiv_cancel' (Int.gcd_dvd_right ..)
    have := Rat.divInt_mul_left (n := t.tdiv (Int.gcd t b)) (d := b.tdiv (Int.gcd t b)) (a := (Int.gcd t b : Int)) (by omega)
    rw [e1, e2] at this
    exact this.symm
  · simp at h

theorem addF_val {x y : Int × Int} (h : (addF x y).2 = true) : fracOk x = true ∧ fracOk y = true ∧ fracOk (addF x y).1 = true ∧ val (addF x y).1 = val x + val y := by
  unfold addF at h ⊢
  split at h
  · rename_i hxy
    rw [if_pos hxy]
    simp only [Bool.and_eq_true] at hxy
    have b1 := fracOk_bd hxy.1
    have b2 := fracOk_bd hxy.2
    have hp := mul_pos1 (x := x.2) (y := y.2) (by omega) (by omega)
    obtain ⟨h1, h2⟩ := mkF_val hp h
    refine ⟨hxy.1, hxy.2, h2, ?_⟩
    rw [h1]; unfold val
    rw [Rat.divInt_add_divInt _ _ (by omega) (by omega)]
  · simp at h

theorem val_nn {x : Int × Int} (h : fracOk x = true) (h0 : 0 ≤ x.1) : 0 ≤ val x := by
  have b := fracOk_bd h
  exact Rat.divInt_nonneg h0 (by omega)
theorem val_le1 {x : Int × Int} (h : fracOk x = true) (h1 : val x ≤ 1) : x.1 ≤ x.2 := by
  have b := fracOk_bd h
  rw [Rat.le_iff_sub_nonneg] at h1
  have e : (1 : Rat) = Rat.divInt 1 1 := rfl
  unfold val at h1
  rw [e, Rat.divInt_sub_divInt _ _ (by omega) (by omega), Rat.divInt_nonneg_iff_of_pos_right (by omega)] at h1
  omega

theorem sumTo_ok {fs : List (Int × Int)} {n : Nat} (h : (sumTo fs n).2 = true) : ∀ k, k ≤ n → (sumTo fs k).2 = true := fun k hk => by
  by_cases hb : (sumTo fs k).2 = true
  · exact hb
  · have hb' : (sumTo fs k).2 = false := by simpa using hb
    rcases sumTo_false hb' n hk with h1 | ⟨rfl, h1⟩
    · rw [h1] at h; simp at h
    · exact hb'.symm ▸ (by rw [h1] at h; simp at h)
theorem sumTo_step {fs : List (Int × Int)} {n k : Nat} (h : (sumTo fs n).2 = true) (hk : k < n) : val (sumTo fs (k + 1)).1 = val (sumTo fs k).1 + val (fs.getD k (0, 0)) := by
  have h1 := sumTo_ok h (k + 1) hk
  have h0 := sumTo_ok h k (by omega)
  rw [sumTo, if_pos h0] at h1 ⊢
  exact (addF_val h1).2.2.2
theorem sumTo_mono {fs : List (Int × Int)} (hn : ∀ f ∈ fs, fracOk f = true ∧ 0 ≤ f.1) {n : Nat} (hl : n ≤ fs.length) (h : (sumTo fs n).2 = true) : ∀ j k, k + j ≤ n → val (sumTo fs k).1 ≤ val (sumTo fs (k + j)).1
  | 0, k, _ => by simp [Rat.le_refl]
  | j + 1, k, hk => by
    have ih := sumTo_mono hn hl h j k (by omega)
    have hs := sumTo_step h (k := k + j) (by omega)
    have hm : fs.getD (k + j) (0, 0) ∈ fs := by
      have hlt : k + j < fs.length := by omega
      have : fs.getD (k + j) (0, 0) = fs[k + j] := by simp [List.getD_eq_getElem?_getD, hlt]
      rw [this]; exact List.getElem_mem _
    have hv := val_nn (hn _ hm).1 (hn _ hm).2
    rw [show k + (j + 1) = k + j + 1 by omega, hs]
    grind

theorem whole_part {fs : List (Int × Int)} (hw : wholeB fs = true) (hn : ∀ f ∈ fs, fracOk f = true ∧ 0 ≤ f.1) : ∀ f ∈ fs, partB f = true := by
  intro f hf
  obtain ⟨k, hk, rfl⟩ := List.getElem_of_mem hf
  simp only [wholeB, Bool.and_eq_true, decide_eq_true_eq] at hw
  obtain ⟨h1, h2⟩ := hw
  simp only [List.cons.injEq, and_true] at h2
  unfold sumF at h1 h2
  split at h1
  · simp at h1
  · rename_i hlen
    rw [if_neg hlen] at h2
    have hs := sumTo_step h1 hk
    have m1 := sumTo_mono hn (Nat.le_refl _) h1 k 0 (by omega)
    have m2 := sumTo_mono hn (Nat.le_refl _) h1 (fs.length - (k + 1)) (k + 1) (by omega)
    rw [show k + 1 + (fs.length - (k + 1)) = fs.length by omega] at m2
    have e : fs.getD k (0, 0) = fs[k] := by simp [List.getD_eq_getElem?_getD, hk]
    rw [e] at hs
    have z : val (sumTo fs 0).1 = 0 := by simp [sumTo, val]
    have one : val (sumTo fs fs.length).1 = 1 := by
      have : (sumTo fs fs.length).1 = (1, 1) := Prod.ext h2.1 h2.2
      rw [this]; rfl
    rw [Nat.zero_add] at m1
    have hle : val fs[k] ≤ 1 := by grind
    have := val_le1 (hn _ hf).1 hle
    simp only [partB, (hn _ hf).1, inR, Bool.true_and, Bool.and_eq_true, decide_eq_true_eq]
    exact ⟨(hn _ hf).2, this⟩

def posF (f : Int × Int) : Bool := fracOk f && decide (0 ≤ f.1)
def posRow (m : List (Bool × List (Int × Int))) (i : Nat) : Bool := decide ((m.getD i (true, [])).2.length = m.length) && (m.getD i (true, [])).2.all posF

theorem allR_at {n k : Nat} {f : Nat → Bool} (h : allR n f = true) (hk : k < n) : f k = true := by
  unfold allR at h; rw [List.all_eq_true] at h; exact h k (by simpa using hk)

theorem lot_eq {m : List (Bool × List (Int × Int))} : (allR m.length (partRow m) && allR m.length (sumRow m)) = (allR m.length (posRow m) && allR m.length (sumRow m)) := by
  rw [Bool.eq_iff_iff]
  simp only [Bool.and_eq_true]
  constructor
  · rintro ⟨h1, h2⟩
    refine ⟨allR_yes fun i hi => ?_, h2⟩
    have := allR_at h1 hi
    simp only [partRow, posRow, Bool.and_eq_true, List.all_eq_true] at this ⊢
    refine ⟨this.1, fun f hf => ?_⟩
    have := this.2 f hf
    simp only [partB, posF, inR, Bool.and_eq_true, decide_eq_true_eq] at this ⊢
    exact ⟨this.1, this.2.1⟩
  · rintro ⟨h1, h2⟩
    refine ⟨allR_yes fun i hi => ?_, h2⟩
    have a := allR_at h1 hi
    have b := allR_at h2 hi
    simp only [partRow, posRow, sumRow, Bool.and_eq_true, List.all_eq_true] at a b ⊢
    exact ⟨a.1, whole_part b.1 fun f hf => by have := a.2 f hf; simpa [posF] using this⟩

end Go.Proofs.Ytakladjlnkojjaa.Ax

/-
  Fractions of a common divisor: sums, differences and quotients of them. No condition.
-/
namespace Go.Proofs.Ytakladjlnkojjaa.Ax
open Go Go.RowKit
set_option linter.unusedSimpArgs false

/-- a parts of D, in the least terms. -/
def qd (a D : Int) : Int × Int := ((Rat.divInt a D).num, ((Rat.divInt a D).den : Int))

theorem red_num {t b : Int} (hb : 0 < b) : (Rat.divInt t b).num = t.tdiv (Int.gcd t b) ∧ ((Rat.divInt t b).den : Int) = b.tdiv (Int.gcd t b) := by
  obtain ⟨g1, g2⟩ := gcd_bd (x := t) (y := b) (by omega)
  have hd1 : (Int.gcd t b : Int) ∣ t := Int.gcd_dvd_left ..
  have hd2 : (Int.gcd t b : Int) ∣ b := Int.gcd_dvd_right ..
  constructor
  · rw [Rat.num_divInt]
    have hs : b.sign = 1 := Int.sign_eq_one_of_pos hb
    rw [hs, Int.one_mul, Int.gcd_comm]
    exact (Int.tdiv_eq_ediv_of_dvd hd1).symm
  · rw [Rat.den_divInt, if_neg (by omega)]
    rw [Int.tdiv_eq_ediv_of_dvd hd2, Int.natCast_ediv, Int.gcd_comm]
    congr 1
    omega

theorem mkF_qd {t b : Int} (hb : 0 < b) : mkF t b = if fracOk (qd t b) = true then (qd t b, true) else ((0, 0), false) := by
  obtain ⟨h1, h2⟩ := red_num (t := t) hb
  unfold mkF qd
  rw [h1, h2]

theorem qd_val {a D : Int} : val (qd a D) = Rat.divInt a D := by unfold val qd; exact Rat.num_divInt_den _
theorem qd_congr {a D b E : Int} (h : Rat.divInt a D = Rat.divInt b E) : qd a D = qd b E := by unfold qd; rw [h]

theorem qd_ok {a D : Int} (hD : 0 < D) (hD1 : D ≤ 1000000000) (ha : -1000000000 ≤ a ∧ a ≤ 1000000000) : fracOk (qd a D) = true := by
  obtain ⟨h1, h2⟩ := red_num (t := a) hD
  obtain ⟨g1, g2⟩ := gcd_bd (x := a) (y := D) (by omega)
  have hden : (1 : Int) ≤ (Rat.divInt a D).den := by have := (Rat.divInt a D).den_pos; omega
  have hde : ((Rat.divInt a D).den : Int) ≤ 1000000000 := by
    have := tdiv_bd (x := D) (y := Int.gcd a D) (m := 1000000000) (by omega) (by omega)
    rw [h2]; omega
  have hnu : -1000000000 ≤ (Rat.divInt a D).num ∧ (Rat.divInt a D).num ≤ 1000000000 := by
    have := tdiv_bd (x := a) (y := Int.gcd a D) (m := 1000000000) (by omega) (by omega)
    rw [h1]; omega
  have hco : Int.gcd (Rat.divInt a D).num ((Rat.divInt a D).den : Int) = 1 := by
    have := (Rat.divInt a D).reduced
    rw [Nat.coprime_iff_gcd_eq_one] at this
    rw [← this]; simp [Int.gcd]
  unfold fracOk qd
  simp only [Bool.and_eq_true, decide_eq_true_eq]
  refine ⟨⟨?_, ?_⟩, ?_⟩ <;> first | omega | simp [hco] | (exact_mod_cast hco)

/-- The parts, and what they are in the least terms. -/
theorem qd_parts {a D : Int} (hD : 0 < D) : ∃ g : Int, 0 < g ∧ (qd a D).1 * g = a ∧ (qd a D).2 * g = D := by
  obtain ⟨h1, h2⟩ := red_num (t := a) hD
  obtain ⟨g1, g2⟩ := gcd_bd (x := a) (y := D) (by omega)
  refine ⟨(Int.gcd a D : Int), by omega, ?_, ?_⟩
  · show (Rat.divInt a D).num * _ = a
    rw [h1]; exact Int.tdiv_mul_cancel (Int.gcd_dvd_left ..)
  · show ((Rat.divInt a D).den : Int) * _ = D
    rw [h2]; exact Int.tdiv_mul_cancel (Int.gcd_dvd_right ..)

theorem qd_scale {a D c : Int} (hc : 0 < c) : qd (c * a) (c * D) = qd a D := qd_congr (Rat.divInt_mul_left (by omega))
theorem qd_pos {a D : Int} (hD : 0 < D) : 0 < (qd a D).1 ↔ 0 < a := by
  obtain ⟨g, h0, h1, _⟩ := qd_parts (a := a) hD
  constructor
  · intro h
    have := Int.mul_pos h h0
    rw [h1] at this; exact this
  · intro h
    rcases Int.lt_or_le 0 (qd a D).1 with h2 | h2
    · exact h2
    · have := Int.mul_nonneg (show 0 ≤ -(qd a D).1 by omega) (show (0 : Int) ≤ g by omega)
      rw [Int.neg_mul, h1] at this
      omega
theorem qd_den {a D : Int} (hD : 0 < D) : 0 < (qd a D).2 := by
  obtain ⟨g, h0, _, h2⟩ := qd_parts (a := a) hD
  rcases Int.lt_or_le 0 (qd a D).2 with h | h
  · exact h
  · have := Int.mul_nonneg (show 0 ≤ -(qd a D).2 by omega) (show (0 : Int) ≤ g by omega)
    rw [Int.neg_mul, h2] at this
    omega

theorem add_divInt {a b D : Int} (hD : 0 < D) : Rat.divInt a D + Rat.divInt b D = Rat.divInt (a + b) D := by
  rw [Rat.divInt_add_divInt _ _ (by omega) (by omega)]
  have e : a * D + b * D = D * (a + b) := by rw [← Int.add_mul, Int.mul_comm]
  rw [e]
  exact Rat.divInt_mul_left (by omega)

theorem addF_qd {a b D : Int} (hD : 0 < D) (hD1 : D ≤ 1000000000) (ha : -1000000000 ≤ a ∧ a ≤ 1000000000) (hb : -1000000000 ≤ b ∧ b ≤ 1000000000) (hab : -1000000000 ≤ a + b ∧ a + b ≤ 1000000000) : addF (qd a D) (qd b D) = (qd (a + b) D, true) := by
  have h1 := qd_ok hD hD1 ha
  have h2 := qd_ok hD hD1 hb
  have h3 := qd_ok hD hD1 hab
  have p1 := qd_den (a := a) hD
  have p2 := qd_den (a := b) hD
  unfold addF
  rw [h1, h2]
  simp only [Bool.and_self, if_true]
  rw [mkF_qd (Int.mul_pos p1 p2)]
  have e : qd ((qd a D).1 * (qd b D).2 + (qd b D).1 * (qd a D).2) ((qd a D).2 * (qd b D).2) = qd (a + b) D := by
    refine qd_congr ?_
    rw [← Rat.divInt_add_divInt _ _ (by omega) (by omega)]
    have v1 : Rat.divInt (qd a D).1 (qd a D).2 = Rat.divInt a D := qd_val (a := a) (D := D)
    have v2 : Rat.divInt (qd b D).1 (qd b D).2 = Rat.divInt b D := qd_val (a := b) (D := D)
    rw [v1, v2, add_divInt hD]
  rw [e, if_pos h3]

theorem neg_qd {a D : Int} : (-(qd a D).1, (qd a D).2) = qd (-a) D := by
  unfold qd
  have : Rat.divInt (-a) D = -(Rat.divInt a D) := (Rat.neg_divInt _ _).symm
  rw [this]; rfl
theorem subF_qd {a b D : Int} (hD : 0 < D) (hD1 : D ≤ 1000000000) (ha : -1000000000 ≤ a ∧ a ≤ 1000000000) (hb : -1000000000 ≤ b ∧ b ≤ 1000000000) (hab : -1000000000 ≤ a - b ∧ a - b ≤ 1000000000) : subF (qd a D) (qd b D) = (qd (a - b) D, true) := by
  unfold subF
  rw [neg_qd, addF_qd hD hD1 ha (by omega) (by omega)]
  rfl

theorem cmpF_qd {a b D : Int} (hD : 0 < D) (hD1 : D ≤ 1000000000) (ha : -1000000000 ≤ a ∧ a ≤ 1000000000) (hb : -1000000000 ≤ b ∧ b ≤ 1000000000) : cmpF (qd a D) (qd b D) = cmpI a b := by
  have h1 := qd_ok hD hD1 ha
  have h2 := qd_ok hD hD1 hb
  obtain ⟨g1, p1, e1, f1⟩ := qd_parts (a := a) hD
  obtain ⟨g2, p2, e2, f2⟩ := qd_parts (a := b) hD
  have key : ∀ x y : Int, (x = (qd a D).1 * (qd b D).2) → (y = (qd b D).1 * (qd a D).2) → (x < y ↔ a < b) ∧ (y < x ↔ b < a) := by
    intro x y hx hy
    have k1 : x * (g1 * g2) = a * D := by
      have : a * D = ((qd a D).1 * g1) * ((qd b D).2 * g2) := by rw [e1, f2]
      rw [hx, this]; simp only [Int.mul_assoc, Int.mul_left_comm, Int.mul_comm]
    have k2 : y * (g1 * g2) = b * D := by
      have : b * D = ((qd b D).1 * g2) * ((qd a D).2 * g1) := by rw [e2, f1]
      rw [hy, this]; simp only [Int.mul_assoc, Int.mul_left_comm, Int.mul_comm]
    have hg : 0 < g1 * g2 := Int.mul_pos p1 p2
    constructor
    · rw [← Int.mul_lt_mul_right hg, k1, k2, Int.mul_lt_mul_right hD]
    · rw [← Int.mul_lt_mul_right hg, k1, k2, Int.mul_lt_mul_right hD]
  obtain ⟨k1, k2⟩ := key _ _ rfl rfl
  unfold cmpF cmpI
  rw [h1, h2]
  simp only [Bool.and_self, if_true, k1, k2]

theorem divF_qd {a D k : Int} (hD : 0 < D) (hk : 0 < k) (hDk : D * k ≤ 1000000000) (ha : -1000000000 ≤ a ∧ a ≤ 1000000000) : mkF (qd a D).1 ((qd a D).2 * k) = (qd a (D * k), true) := by
  have p1 := qd_den (a := a) hD
  rw [mkF_qd (Int.mul_pos p1 hk)]
  have h3 := qd_ok (Int.mul_pos hD hk) hDk ha
  have e : qd (qd a D).1 ((qd a D).2 * k) = qd a (D * k) := by
    obtain ⟨g, p2, e1, f1⟩ := qd_parts (a := a) hD
    have h := qd_scale (a := (qd a D).1) (D := (qd a D).2 * k) p2
    rw [← h]
    have e2 : g * (qd a D).1 = a := by rw [Int.mul_comm]; exact e1
    have e3 : g * ((qd a D).2 * k) = D * k := by rw [← Int.mul_assoc, Int.mul_comm g]; rw [f1]
    rw [e2, e3]
  rw [e, if_pos h3]

end Go.Proofs.Ytakladjlnkojjaa.Ax

/-
  The plain side of AdjustedShares: things are passed on in an order, the last one in parts. Plain Lean, no program in sight.
-/
namespace Go.Proofs.Ytakladjlnkojjaa.Ax
open Go Go.RowKit
set_option linter.unusedSimpArgs false

theorem insFrom_perm {c : Int → Int → Int} {ys : List Int} {x : Int} : ∀ {k : Nat}, (insFrom c ys x k).Perm (x :: ys)
  | 0 => .refl _
  | k + 1 => by
    unfold insFrom
    split
    · exact insFrom_perm
    · have := List.perm_middle (a := x) (l₁ := ys.take (k + 1)) (l₂ := ys.drop (k + 1))
      rwa [List.take_append_drop] at this
theorem isort_perm {c : Int → Int → Int} (xs : List Int) : (isort c xs).Perm xs := by
  unfold isort
  suffices h : ∀ (xs ys : List Int), (xs.foldl (ins c) ys).Perm (ys ++ xs) by simpa using h xs []
  intro xs
  induction xs with
  | nil => intro ys; simp
  | cons x xs ih =>
    intro ys
    simp only [List.foldl_cons]
    refine (ih _).trans ?_
    have h1 : (ins c ys x ++ xs).Perm ((x :: ys) ++ xs) := List.Perm.append_right _ insFrom_perm
    refine h1.trans ?_
    exact (List.perm_middle (a := x) (l₁ := ys) (l₂ := xs)).symm
theorem selTo_nodup {p : Nat → Bool} {k : Nat} : (selTo p k).Nodup := by
  unfold selTo
  rw [List.Nodup, List.pairwise_map]
  refine List.Pairwise.imp ?_ (List.Pairwise.filter _ (List.nodup_range (n := k)))
  intro a b h e
  exact h (by omega)

/-- The points of the heirs by the first shares of the first k things. -/
def cntS (r0 r1 : List Int) : Nat → Int × Int
  | 0 => (0, 0)
  | k + 1 => if at0 r1 k ≤ at0 r0 k then ((cntS r0 r1 k).1 + at0 r0 k, (cntS r0 r1 k).2) else ((cntS r0 r1 k).1, (cntS r0 r1 k).2 + at0 r1 k)
theorem cntS_bd {r0 r1 : List Int} (h0 : ∀ z ∈ r0, 0 ≤ z ∧ z ≤ 100) (h1 : ∀ z ∈ r1, 0 ≤ z ∧ z ≤ 100) : ∀ {k : Nat}, k ≤ r0.length → k ≤ r1.length → 0 ≤ (cntS r0 r1 k).1 ∧ (cntS r0 r1 k).1 ≤ 100 * k ∧ 0 ≤ (cntS r0 r1 k).2 ∧ (cntS r0 r1 k).2 ≤ 100 * k
  | 0, _, _ => by simp [cntS]
  | k + 1, ha, hb => by
    have ih := cntS_bd h0 h1 (k := k) (by omega) (by omega)
    have e0 := h0 _ (List.getElem_mem (show k < r0.length by omega))
    have e1 := h1 _ (List.getElem_mem (show k < r1.length by omega))
    rw [← at0_eq] at e0 e1
    unfold cntS
    split <;> simp only <;> omega

/-- What is passed on: points of the one who gives, of the other one, and the shares. -/
abbrev DSt := Int × Int × List (Int × Int)
def dealS (u v : List Int) (fr : Int) (s : DSt) (g : Int) : DSt := (s.1 - at0 u g.toNat, s.2.1 + at0 v g.toNat, s.2.2.set g.toNat (fr, 1))
def splF (fr d w : Int) : Int × Int := if fr = 0 then ((mkF d w).1.2 - (mkF d w).1.1, (mkF d w).1.2) else (mkF d w).1
def dealL (u v : List Int) (fr : Int) : List Int → DSt → List (Int × Int)
  | [], s => s.2.2
  | g :: l, s => if s.2.1 + at0 v g.toNat ≤ s.1 - at0 u g.toNat then dealL u v fr l (dealS u v fr s g) else s.2.2.set g.toNat (splF fr (s.1 - s.2.1) (at0 u g.toNat + at0 v g.toNat))
def dealT (u v : List Int) (fr : Int) (ord : List Int) (s0 : DSt) : Nat → DSt
  | 0 => s0
  | k + 1 => dealS u v fr (dealT u v fr ord s0 k) (ord.getD k 0)
structure OrdOk (u v : List Int) (fr : Int) (n : Nat) (ord : List Int) (sh : List (Int × Int)) : Prop where
  nd : ord.Nodup
  at' : ∀ g ∈ ord, ∃ i : Nat, g = i ∧ i < n ∧ sh.getD i (0, 0) = (1 - fr, 1) ∧ 0 < at0 u i + at0 v i
  bu : ∀ i, i < n → 0 ≤ at0 u i ∧ at0 u i ≤ 100
  bv : ∀ i, i < n → 0 ≤ at0 v i ∧ at0 v i ≤ 100
structure DealP (u v : List Int) (fr : Int) (n : Nat) (ord : List Int) (R : List (Int × Int)) (k : Nat) (s : DSt) : Prop where
  ln : s.2.2.length = n
  ge : s.2.1 ≤ s.1
  y0 : 0 ≤ s.2.1
  x1 : s.1 ≤ 600
  res : dealL u v fr (ord.drop k) s = R
  rest : ∀ j (h : j < ord.length), k ≤ j → s.2.2.getD ord[j].toNat (0, 0) = (1 - fr, 1)

section
variable {u v : List Int} {fr : Int} {n : Nat} {ord : List Int} {sh : List (Int × Int)} {R : List (Int × Int)} {k : Nat} {s : DSt}
theorem ord_at (h : OrdOk u v fr n ord sh) (hk : k < ord.length) : ∃ i : Nat, ord[k] = i ∧ i < n ∧ 0 < at0 u i + at0 v i ∧ (0 ≤ at0 u i ∧ at0 u i ≤ 100) ∧ (0 ≤ at0 v i ∧ at0 v i ≤ 100) := by
  obtain ⟨i, h1, h2, _, h4⟩ := h.at' _ (List.getElem_mem hk)
  exact ⟨i, h1, h2, h4, h.bu i h2, h.bv i h2⟩
theorem deal_zero (h : OrdOk u v fr n ord sh) {x y : Int} (hl : sh.length = n) (hge : y ≤ x) (hy : 0 ≤ y) (hx : x ≤ 600) : DealP u v fr n ord (dealL u v fr ord (x, y, sh)) 0 (x, y, sh) :=
  ⟨hl, hge, hy, hx, rfl, fun j hj _ => by
    obtain ⟨i, h1, _, h3, _⟩ := h.at' _ (List.getElem_mem hj)
    simp only [h1, Int.toNat_natCast]; exact h3⟩
theorem deal_step (h : OrdOk u v fr n ord sh) (hp : DealP u v fr n ord R k s) (hk : k < ord.length) {i : Nat} (hi : ord[k] = (i : Int)) (hc : s.2.1 + at0 v i ≤ s.1 - at0 u i) :
    DealP u v fr n ord R (k + 1) (s.1 - at0 u i, s.2.1 + at0 v i, s.2.2.set i (fr, 1)) := by
  obtain ⟨i', h1, h2, _, h4, h5⟩ := ord_at h hk
  obtain rfl : i = i' := by omega
  have := hp.y0; have := hp.x1
  refine ⟨by simp [hp.ln], hc, by simp only; omega, by simp only; omega, ?_, fun j hj hkj => ?_⟩
  · rw [← hp.res, List.drop_eq_getElem_cons hk, dealL, hi]
    simp only [Int.toNat_natCast, if_pos hc, dealS]
  · obtain ⟨j', e1, _, e3, _⟩ := h.at' _ (List.getElem_mem hj)
    have hne : i ≠ j' := fun e => by
      have := (List.pairwise_iff_getElem.1 h.nd) k j hk hj (by omega)
      exact this (by omega)
    have hr := hp.rest j hj (by omega)
    rw [e1] at hr ⊢
    simp only [Int.toNat_natCast, List.getD_eq_getElem?_getD, List.getElem?_set_ne hne] at hr ⊢
    exact hr
theorem deal_stop (_h : OrdOk u v fr n ord sh) (hp : DealP u v fr n ord R k s) (hk : k < ord.length) {i : Nat} (hi : ord[k] = (i : Int)) (hc : ¬ s.2.1 + at0 v i ≤ s.1 - at0 u i) : R = s.2.2.set i (splF fr (s.1 - s.2.1) (at0 u i + at0 v i)) := by
  rw [← hp.res, List.drop_eq_getElem_cons hk, dealL, hi]
  simp only [Int.toNat_natCast, if_neg hc]
theorem mkF_zero {w : Int} (hw : 0 < w) : mkF 0 w = ((0, 1), true) := by
  rw [mkF_qd hw]
  have : qd 0 w = (0, 1) := by unfold qd; rw [Rat.zero_divInt]; rfl
  rw [this]; rfl
theorem splF_zero {w : Int} (hw : 0 < w) (hfr : fr = 0 ∨ fr = 1) : splF fr 0 w = (1 - fr, 1) := by
  unfold splF; rw [mkF_zero hw]
  rcases hfr with rfl | rfl <;> rfl
theorem deal_same (h : OrdOk u v fr n ord sh) (hfr : fr = 0 ∨ fr = 1) (hp : DealP u v fr n ord R k s) (hk : k < ord.length) (he : s.1 = s.2.1) : R = s.2.2 := by
  obtain ⟨i, h1, h2, h3, h4, h5⟩ := ord_at h hk
  rw [deal_stop h hp hk h1 (by omega), show s.1 - s.2.1 = 0 by omega, splF_zero h3 hfr]
  have hr := hp.rest k hk (Nat.le_refl _)
  rw [h1] at hr
  have hil : i < s.2.2.length := by rw [hp.ln]; exact h2
  simp only [Int.toNat_natCast, List.getD_eq_getElem?_getD, List.getElem?_eq_getElem hil, Option.getD_some] at hr
  rw [← hr]
  exact List.set_getElem_self hil
theorem deal_end (hp : DealP u v fr n ord R k s) (hk : k = ord.length) : R = s.2.2 := by
  subst hk
  rw [← hp.res, List.drop_length, dealL]
/-- The part that is passed on. -/
theorem spl_part {d w : Int} (h0 : 0 ≤ d) (h1 : d < w) (h2 : w ≤ 200) : ∃ a b, mkF d w = ((a, b), true) ∧ partB (a, b) = true := by
  have hw : 0 < w := by omega
  have hok := qd_ok (a := d) hw (by omega) (by omega)
  rw [mkF_qd hw, if_pos hok]
  refine ⟨(qd d w).1, (qd d w).2, rfl, ?_⟩
  obtain ⟨g, g0, e1, e2⟩ := qd_parts (a := d) hw
  have hden := qd_den (a := d) hw
  simp only [partB, inR, Bool.and_eq_true, decide_eq_true_eq]
  refine ⟨hok, ?_, ?_⟩
  · rcases Int.lt_or_le (qd d w).1 0 with h | h
    · have := Int.mul_pos (show 0 < -(qd d w).1 by omega) g0
      rw [Int.neg_mul, e1] at this; omega
    · exact h
  · rcases Int.lt_or_le (qd d w).2 (qd d w).1 with h | h
    · have := Int.mul_lt_mul_of_pos_right h g0
      omega
    · exact h
end

/-- Who gives. -/
def giveR (c : Int × Int) : Int := if c.1 < c.2 then 1 else 0
def adjL (xss : List (Bool × List Int)) : List (Int × Int) := match xss with
  | [r0, r1] => if pointsB xss = true then
      (if giveR (cntS r0.2 r1.2 r0.2.length) = 0 then dealL r0.2 r1.2 0 (tOrd xss 0) ((cntS r0.2 r1.2 r0.2.length).1, (cntS r0.2 r1.2 r0.2.length).2, fsA r0.2 r1.2 r0.2.length)
       else dealL r1.2 r0.2 1 (tOrd xss 1) ((cntS r0.2 r1.2 r0.2.length).2, (cntS r0.2 r1.2 r0.2.length).1, fsA r0.2 r1.2 r0.2.length)) else []
  | _ => []
theorem adj_no {xss : List (Bool × List Int)} (h : pointsB xss = false) : adjL xss = [] := by
  unfold adjL; split <;> simp [h]
theorem ordOk {r0 r1 u v : Bool × List Int} {fr : Int} (h1 : pointsB [r0, r1] = true) (hcase : (fr = 0 ∧ u = r0 ∧ v = r1) ∨ (fr = 1 ∧ u = r1 ∧ v = r0)) : OrdOk u.2 v.2 fr r0.2.length (tOrd [r0, r1] fr) (fsA r0.2 r1.2 r0.2.length) := by
  obtain ⟨h2, hr⟩ := points_facts h1
  have hr1 := rect_row hr (i := 1) (by simp)
  have hr0 := rect_row hr (i := 0) (by simp)
  simp only [wid, List.headD_cons] at hr1 hr0
  simp only [List.getElem_cons_succ, List.getElem_cons_zero] at hr1 hr0
  have b0 : ∀ i, i < r0.2.length → 0 ≤ at0 r0.2 i ∧ at0 r0.2 i ≤ 100 := fun i hi => by rw [at0_eq hi]; exact hr0.2 _ (List.getElem_mem _)
  have b1 : ∀ i, i < r0.2.length → 0 ≤ at0 r1.2 i ∧ at0 r1.2 i ≤ 100 := fun i hi => by rw [at0_eq (show i < r1.2.length by omega)]; exact hr1.2 _ (List.getElem_mem _)
  have hfr : 0 ≤ fr ∧ fr ≤ 1 := by rcases hcase with ⟨rfl, _⟩ | ⟨rfl, _⟩ <;> omega
  have ho : ∃ c, tOrd [r0, r1] fr = isort c (selTo (selB r0.2 r1.2 fr) r0.2.length) := by
    simp only [tOrd, h1, hfr.1, hfr.2, and_self, if_true]; exact ⟨_, rfl⟩
  obtain ⟨c, ho⟩ := ho
  rw [ho]
  refine ⟨(isort_perm _).nodup_iff.2 selTo_nodup, fun g hg => ?_, ?_, ?_⟩
  · obtain ⟨i, e, hi, hs⟩ := selTo_mem (isort_mem.1 hg)
    refine ⟨i, e, hi, ?_, ?_⟩
    · simp only [selB, Bool.and_eq_true, decide_eq_true_eq] at hs
      have : i < (fsA r0.2 r1.2 r0.2.length).length := by rw [fsA_len]; exact hi
      rw [List.getD_eq_getElem?_getD, List.getElem?_eq_getElem this, Option.getD_some]
      simp only [fsA, List.getElem_map, List.getElem_range, fshare, hs.1]
    · simp only [selB, Bool.and_eq_true, decide_eq_true_eq] at hs
      rcases hcase with ⟨_, rfl, rfl⟩ | ⟨_, rfl, rfl⟩ <;> omega
  · rcases hcase with ⟨_, rfl, rfl⟩ | ⟨_, rfl, rfl⟩
    · exact b0
    · exact b1
  · rcases hcase with ⟨_, rfl, rfl⟩ | ⟨_, rfl, rfl⟩
    · exact b1
    · exact b0

end Go.Proofs.Ytakladjlnkojjaa.Ax

/-
  Heirs: the adjusted shares as parts of one number; nobody would swap; both have the same. No condition.
-/
namespace Go.Proofs.Ytakladjlnkojjaa.Ax
open Go Go.RowKit
set_option linter.unusedSimpArgs false

def sm (f : Nat → Int) : Nat → Int
  | 0 => 0
  | k + 1 => sm f k + f k
theorem sm_congr {f g : Nat → Int} : ∀ {n : Nat}, (∀ i, i < n → f i = g i) → sm f n = sm g n
  | 0, _ => rfl
  | n + 1, h => by simp only [sm]; rw [sm_congr (n := n) fun i hi => h i (by omega), h n (by omega)]
theorem sm_add {f g : Nat → Int} : ∀ {n : Nat}, sm (fun i => f i + g i) n = sm f n + sm g n
  | 0 => rfl
  | n + 1 => by simp only [sm]; rw [sm_add]; omega
theorem sm_mulL {c : Int} {f : Nat → Int} : ∀ {n : Nat}, sm (fun i => c * f i) n = c * sm f n
  | 0 => by simp [sm]
  | n + 1 => by simp only [sm]; rw [sm_mulL, Int.mul_add]
theorem sm_le {f g : Nat → Int} : ∀ {n : Nat}, (∀ i, i < n → f i ≤ g i) → sm f n ≤ sm g n
  | 0, _ => by simp [sm]
  | n + 1, h => by
    have := sm_le (n := n) fun i hi => h i (by omega)
    have := h n (by omega)
    simp only [sm]; omega
theorem sm_zero {n : Nat} : sm (fun _ => 0) n = 0 := by
  induction n with
  | zero => rfl
  | succ n ih => simp only [sm, ih]; rfl
/-- One summand turned. -/
theorem sm_one {f g : Nat → Int} {i : Nat} : ∀ {n : Nat}, i < n → (∀ k, k < n → k ≠ i → g k = f k) → sm g n = sm f n - f i + g i
  | 0, h, _ => by omega
  | n + 1, h, hk => by
    simp only [sm]
    by_cases e : i = n
    · subst e
      rw [sm_congr (n := i) (f := g) (g := f) fun k hk' => hk k (by omega) (by omega)]; omega
    · have := sm_one (n := n) (f := f) (g := g) (i := i) (by omega) fun k h1 h2 => hk k (by omega) h2
      have := hk n (by omega) (fun e' => e e'.symm)
      omega

theorem qd_zero {D : Int} : qd 0 D = (0, 1) := by unfold qd; rw [Rat.zero_divInt]; rfl
theorem qd_one {D : Int} (hD : 0 < D) : qd D D = (1, 1) := by
  have := qd_scale (a := 1) (D := 1) hD
  rw [Int.mul_one] at this
  rw [this]; unfold qd; decide +kernel

theorem qd_part {a D : Int} (hD : 0 < D) (hD2 : D ≤ 200) (h0 : 0 ≤ a) (h1 : a ≤ D) : partB (qd a D) = true := by
  by_cases e : a = D
  · subst e; rw [qd_one hD]; decide
  · obtain ⟨x, y, h2, h3⟩ := spl_part h0 (show a < D by omega) hD2
    rw [mkF_qd hD, if_pos (qd_ok hD (by omega) (by omega))] at h2
    simp only [Prod.mk.injEq, and_true] at h2
    rw [h2]; exact h3
theorem qd_compl {a D : Int} (hD : 0 < D) (hD2 : D ≤ 200) (h0 : 0 ≤ a) (h1 : a ≤ D) : ((qd a D).2 - (qd a D).1, (qd a D).2) = qd (D - a) D := by
  have k1 := (sub_part (t := (qd a D).1) (b := (qd a D).2) (qd_part hD hD2 h0 h1)).1
  have k2 := subF_qd (a := D) (b := a) hD (by omega) (by omega) (by omega) (by omega)
  rw [qd_one hD] at k2
  have : subF (1, 1) (qd a D) = subF (1, 1) ((qd a D).1, (qd a D).2) := rfl
  rw [this, k1] at k2
  simp only [Prod.mk.injEq, and_true] at k2
  exact k2

/-- What is left to pass on, with what the giver has (c) of all things. -/
structure Dl (u v : List Int) (fr : Int) (n : Nat) (l : List Int) (s : DSt) (c : Nat → Int) : Prop where
  ln : s.2.2.length = n
  sh : ∀ g, g < n → s.2.2.getD g (0, 0) = (if fr = 0 then c g else 1 - c g, 1)
  c01 : ∀ g, g < n → c g = 0 ∨ c g = 1
  x : s.1 = sm (fun g => at0 u g * c g) n
  y : s.2.1 = sm (fun g => at0 v g * (1 - c g)) n
  ge : s.2.1 ≤ s.1
  mem : ∀ g ∈ l, ∃ i : Nat, g = i ∧ i < n ∧ c i = 1 ∧ 0 < at0 u i + at0 v i
  nd : l.Nodup
  rest : ∀ i : Nat, i < n → c i = 1 → (i : Int) ∉ l → at0 u i = 0 ∧ at0 v i = 0
  best : ∀ x y, x < n → y < n → c x = 1 → c y = 0 → at0 u y * at0 v x ≤ at0 u x * at0 v y
  so : l.Pairwise (leR u v)
/-- Shares that are parts of D: T is what the giver keeps. -/
structure Prt (u v : List Int) (fr : Int) (n : Nat) (R : List (Int × Int)) (D : Int) (T : Nat → Int) : Prop where
  d1 : 1 ≤ D
  d2 : D ≤ 200
  t : ∀ g, g < n → 0 ≤ T g ∧ T g ≤ D
  ln : R.length = n
  sh : ∀ g, g < n → R.getD g (0, 0) = qd (if fr = 0 then T g else D - T g) D
  eq : sm (fun g => at0 u g * T g) n = sm (fun g => at0 v g * (D - T g)) n
  one : ∃ i, ∀ g, g < n → g ≠ i → T g = 0 ∨ T g = D
  best : ∀ x y, x < n → y < n → 0 < T x → T y < D → at0 u y * at0 v x ≤ at0 u x * at0 v y

theorem gdF_set {l : List (Int × Int)} {i j : Nat} {x : Int × Int} (hi : i < l.length) : (l.set i x).getD j (0, 0) = if j = i then x else l.getD j (0, 0) := by
  simp only [List.getD_eq_getElem?_getD, List.getElem?_set]
  by_cases h : i = j
  · subst h; simp [hi]
  · rw [if_neg h, if_neg (fun e => h e.symm)]

theorem deal_parts {u v : List Int} {fr : Int} {n : Nat} (hfr : fr = 0 ∨ fr = 1) (bu : ∀ i, i < n → 0 ≤ at0 u i ∧ at0 u i ≤ 100) (bv : ∀ i, i < n → 0 ≤ at0 v i ∧ at0 v i ≤ 100) : ∀ {l : List Int} {s : DSt} {c : Nat → Int}, Dl u v fr n l s c → ∃ D T, Prt u v fr n (dealL u v fr l s) D T
  | [], s, c, h => by
    have hx0 : s.1 = 0 := by
      rw [h.x, ← sm_zero (n := n)]
      refine sm_congr fun g hg => ?_
      rcases h.c01 g hg with e | e
      · rw [e, Int.mul_zero]
      · rw [(h.rest g hg e (by simp)).1, Int.zero_mul]
    have hy0 : 0 ≤ s.2.1 := by
      rw [h.y, ← sm_zero (n := n)]
      refine sm_le fun g hg => ?_
      have := bv g hg
      rcases h.c01 g hg with e | e <;> rw [e] <;> simp
      exact this.1
    have hge := h.ge
    refine ⟨1, c, ⟨by omega, by omega, fun g hg => ?_, h.ln, fun g hg => ?_, ?_, ⟨0, fun g hg _ => h.c01 g hg⟩, fun x y hx hy h1 h2 => ?_⟩⟩
    · rcases h.c01 g hg with e | e <;> omega
    · show s.2.2.getD g (0, 0) = _
      rw [h.sh g hg]
      rcases h.c01 g hg with e | e <;> rcases hfr with f | f <;> simp only [e, f] <;> decide +kernel
    · rw [← h.x, ← h.y]; omega
    · rcases h.c01 x hx with e | e
      · omega
      · rcases h.c01 y hy with e' | e'
        · exact h.best x y hx hy e e'
        · omega
  | g :: l, s, c, h => by
    obtain ⟨i, rfl, hi, hci, hw⟩ := h.mem g (by simp)
    have hbu := bu i hi
    have hbv := bv i hi
    have hil : i < s.2.2.length := by rw [h.ln]; exact hi
    have hnd := List.nodup_cons.1 h.nd
    have hso := List.pairwise_cons.1 h.so
    -- behind i in the order, or without worth
    have hbi : ∀ x, x < n → c x = 1 → at0 u i * at0 v x ≤ at0 u x * at0 v i := fun x hx hcx => by
      by_cases e : x = i
      · subst e; exact Int.le_refl _
      · by_cases hm : (x : Int) ∈ l
        · have := hso.1 _ hm
          simpa [leR] using this
        · have := h.rest x hx hcx (by simp only [List.mem_cons, not_or]; exact ⟨by omega, hm⟩)
          rw [this.1, this.2]; simp
    rw [dealL]
    simp only [Int.toNat_natCast]
    split
    · rename_i hc
      refine deal_parts hfr bu bv (c := fun k => if k = i then 0 else c k) ⟨?_, fun g hg => ?_, fun g hg => ?_, ?_, ?_, ?_, fun g hg => ?_, hnd.2, fun k hk hck hm => ?_, fun x y hx hy h1 h2 => ?_, hso.2⟩
      · simp [dealS, h.ln]
      · simp only [dealS, Int.toNat_natCast]
        rw [gdF_set hil]
        split
        · rcases hfr with f | f <;> rw [f] <;> rfl
        · exact h.sh g hg
      · split
        · exact .inl rfl
        · exact h.c01 g hg
      · simp only [dealS, Int.toNat_natCast]
        rw [sm_one (f := fun g => at0 u g * c g) (g := fun k => at0 u k * (if k = i then 0 else c k)) hi (fun k _ hk => by simp only [if_neg hk]), ← h.x]
        simp [hci]
      · simp only [dealS, Int.toNat_natCast]
        rw [sm_one (f := fun g => at0 v g * (1 - c g)) (g := fun k => at0 v k * (1 - (if k = i then 0 else c k))) hi (fun k _ hk => by simp only [if_neg hk]), ← h.y]
        simp [hci]
      · simp only [dealS, Int.toNat_natCast]; exact hc
      · obtain ⟨j, rfl, hj, hcj, hwj⟩ := h.mem g (by simp [hg])
        have : j ≠ i := fun e => by subst e; exact hnd.1 hg
        exact ⟨j, rfl, hj, by simp only [if_neg this]; exact hcj, hwj⟩
      · have : k ≠ i := fun e => by subst e; simp at hck
        simp only [if_neg this] at hck
        exact h.rest k hk hck (by simp only [List.mem_cons, not_or]; exact ⟨by omega, hm⟩)
      · have hxi : x ≠ i := fun e => by subst e; simp at h1
        simp only [if_neg hxi] at h1
        by_cases hyi : y = i
        · subst hyi; exact hbi x hx h1
        · simp only [if_neg hyi] at h2
          exact h.best x y hx hy h1 h2
    · rename_i hc
      have hge := h.ge
      refine ⟨at0 u i + at0 v i, fun k => if k = i then (at0 u i + at0 v i) - (s.1 - s.2.1) else (at0 u i + at0 v i) * c k, ⟨by omega, by omega, fun g hg => ?_, by simp [h.ln], fun g hg => ?_, ?_, ⟨i, fun g hg hgi => ?_⟩, fun x y hx hy h1 h2 => ?_⟩⟩
      · split
        · omega
        · rcases h.c01 g hg with e | e <;> rw [e] <;> omega
      · rw [gdF_set hil]
        split
        · rename_i e
          subst e
          have hm : mkF (s.1 - s.2.1) (at0 u g + at0 v g) = (qd (s.1 - s.2.1) (at0 u g + at0 v g), true) := by
            rw [mkF_qd (by omega), if_pos (qd_ok (by omega) (by omega) (by omega))]
          unfold splF
          rw [hm]
          rcases hfr with f | f
          · rw [if_pos f, if_pos f]; exact qd_compl (by omega) (by omega) (by omega) (by omega)
          · rw [if_neg (by omega), if_neg (by omega)]
            rw [show at0 u g + at0 v g - (at0 u g + at0 v g - (s.1 - s.2.1)) = s.1 - s.2.1 by omega]
        · rw [h.sh g hg]
          rcases h.c01 g hg with e | e <;> rcases hfr with f | f <;> simp [e, f, qd_zero, qd_one hw]
      · have e1 := sm_one (n := n) (f := fun g => (at0 u i + at0 v i) * (at0 u g * c g)) (g := fun k => at0 u k * (if k = i then (at0 u i + at0 v i) - (s.1 - s.2.1) else (at0 u i + at0 v i) * c k)) hi (fun k _ hk => by simp only [if_neg hk]; rw [Int.mul_left_comm])
        have e2 := sm_one (n := n) (f := fun g => (at0 u i + at0 v i) * (at0 v g * (1 - c g))) (g := fun k => at0 v k * (at0 u i + at0 v i - (if k = i then (at0 u i + at0 v i) - (s.1 - s.2.1) else (at0 u i + at0 v i) * c k))) hi (fun k _ hk => by simp only [if_neg hk]; rw [show (at0 u i + at0 v i) - (at0 u i + at0 v i) * c k = (at0 u i + at0 v i) * (1 - c k) by rw [Int.mul_sub, Int.mul_one], Int.mul_left_comm])
        rw [sm_mulL, ← h.x] at e1
        rw [sm_mulL, ← h.y] at e2
        rw [e1, e2]
        simp only [if_true, hci]
        generalize at0 u i = a at *
        generalize at0 v i = b at *
        generalize s.1 = x at *
        generalize s.2.1 = y at *
        grind
      · simp only [if_neg hgi]
        rcases h.c01 g hg with e | e <;> rw [e] <;> omega
      · by_cases hxi : x = i
        · subst hxi
          by_cases hyi : y = x
          · subst hyi; exact Int.le_refl _
          · rw [if_neg hyi] at h2
            rcases h.c01 y hy with e | e
            · exact h.best x y hx hy hci e
            · rw [e] at h2; omega
        · rw [if_neg hxi] at h1
          have hcx : c x = 1 := by
            rcases h.c01 x hx with e | e
            · rw [e] at h1; omega
            · exact e
          by_cases hyi : y = i
          · subst hyi; exact hbi x hx hcx
          · rw [if_neg hyi] at h2
            rcases h.c01 y hy with e | e
            · exact h.best x y hx hy hcx e
            · rw [e] at h2; omega

end Go.Proofs.Ytakladjlnkojjaa.Ax
