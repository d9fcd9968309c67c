/-
  Heirs: where passing on begins; what the adjusted shares are worth. No condition.
-/
import Derived.Test.YtakladjlnkojjaaCG5
import Derived.Test.YtakladjlnkojjaaCK4
import Derived.Test.YtakladjlnkojjaaCB2
import Derived.Deep.QuietTactic
import Derived.BigQuiet
namespace Go.Proofs.Ytakladjlnkojjaa.Ax
open Go Go.RowKit
set_option linter.unusedSimpArgs false

theorem sm_mul_le {A B A' B' : Nat → Int} {n : Nat} : ∀ {m : Nat}, (∀ x y, x < m → y < n → B' x * A' y ≤ A x * B y) → sm B' m * sm A' n ≤ sm A m * sm B n
  | 0, _ => by simp [sm]
  | m + 1, h => by
    have ih := sm_mul_le (n := n) (m := m) fun x y hx hy => h x y (by omega) hy
    have h1 := sm_le (n := n) fun y hy => h m y (by omega) hy
    rw [sm_mulL, sm_mulL] at h1
    simp only [sm]
    rw [Int.add_mul, Int.add_mul]; omega

/-- Heir 0 has thing g first. -/
def fi (r0 r1 : List Int) (g : Nat) : Int := if at0 r1 g ≤ at0 r0 g then 1 else 0
theorem cntS_sm {r0 r1 : List Int} : ∀ {k : Nat}, cntS r0 r1 k = (sm (fun g => at0 r0 g * fi r0 r1 g) k, sm (fun g => at0 r1 g * (1 - fi r0 r1 g)) k)
  | 0 => rfl
  | k + 1 => by
    simp only [cntS, sm, fi]
    rw [cntS_sm (k := k)]
    split
    · simp [fi]
    · simp [fi]

structure Pts (r0 r1 : Bool × List Int) : Prop where
  h : pointsB [r0, r1] = true
  l1 : r1.2.length = r0.2.length
  n1 : 1 ≤ r0.2.length
  n6 : r0.2.length ≤ 6
  b0 : ∀ i, i < r0.2.length → 0 ≤ at0 r0.2 i ∧ at0 r0.2 i ≤ 100
  b1 : ∀ i, i < r0.2.length → 0 ≤ at0 r1.2 i ∧ at0 r1.2 i ≤ 100
  s0 : sm (at0 r0.2) r0.2.length = 100
  s1 : sm (at0 r1.2) r0.2.length = 100

theorem tOrd_facts {r0 r1 u v : Bool × List Int} {fr : Int} (hp : Pts r0 r1) (hcase : (fr = 0 ∧ u = r0 ∧ v = r1) ∨ (fr = 1 ∧ u = r1 ∧ v = r0)) :
    (tOrd [r0, r1] fr).Pairwise (leR u.2 v.2) ∧ (∀ i : Nat, (i : Int) ∈ tOrd [r0, r1] fr ↔ i < r0.2.length ∧ fi r0.2 r1.2 i = 1 - fr ∧ 0 < at0 r0.2 i + at0 r1.2 i) := by
  have hfr : 0 ≤ fr ∧ fr ≤ 1 := by rcases hcase with ⟨rfl, _⟩ | ⟨rfl, _⟩ <;> omega
  have ho : tOrd [r0, r1] fr = isort (ratC u.2 v.2) (selTo (selB r0.2 r1.2 fr) r0.2.length) := by
    simp only [tOrd, hp.h, hfr.1, hfr.2, and_self, if_true]
    rcases hcase with ⟨rfl, rfl, rfl⟩ | ⟨rfl, rfl, rfl⟩ <;> rfl
  have hsel : ∀ i : Nat, (i : Int) ∈ selTo (selB r0.2 r1.2 fr) r0.2.length ↔ i < r0.2.length ∧ fi r0.2 r1.2 i = 1 - fr ∧ 0 < at0 r0.2 i + at0 r1.2 i := fun i => by
    simp only [selTo, List.mem_map, List.mem_filter, List.mem_range, selB, Bool.and_eq_true, decide_eq_true_eq, fi]
    constructor
    · rintro ⟨j, ⟨h1, h2, h3⟩, e⟩
      obtain rfl : j = i := by omega
      exact ⟨h1, h2, h3⟩
    · rintro ⟨h1, h2, h3⟩; exact ⟨i, ⟨h1, h2, h3⟩, rfl⟩
  rw [ho]
  refine ⟨isort_sorted (D := domR u.2 v.2) (fun x y hx hy => ratC_neg hx hy) (fun x y z hx hy hz => leR_trans hx hy hz) (fun x y _ _ h => leR_total h) _ fun y hy => ?_, fun i => by rw [isort_mem]; exact hsel i⟩
  obtain ⟨i, rfl, hi, _⟩ := selTo_mem hy
  have h1 := (hsel i).1 hy
  have := hp.b0 i hi
  have := hp.b1 i hi
  simp only [domR, Int.toNat_natCast]
  rcases hcase with ⟨rfl, rfl, rfl⟩ | ⟨rfl, rfl, rfl⟩ <;> exact ⟨by omega, by omega, by omega⟩

/-- The shares in parts of D: t is heir 0's. -/
structure Hrs (r0 r1 : Bool × List Int) (R : List (Int × Int)) (D : Int) (t : Nat → Int) : Prop where
  d1 : 1 ≤ D
  d2 : D ≤ 200
  tb : ∀ g, g < r0.2.length → 0 ≤ t g ∧ t g ≤ D
  ln : R.length = r0.2.length
  sh : ∀ g, g < r0.2.length → R.getD g (0, 0) = qd (t g) D
  one : ∃ i, ∀ g, g < r0.2.length → g ≠ i → t g = 0 ∨ t g = D
  best : ∀ x y, x < r0.2.length → y < r0.2.length → 0 < t x → t y < D → at0 r0.2 y * at0 r1.2 x ≤ at0 r0.2 x * at0 r1.2 y

theorem fi01 {r0 r1 : List Int} {g : Nat} : fi r0 r1 g = 0 ∨ fi r0 r1 g = 1 := by unfold fi; split <;> simp
theorem fsA_at {r0 r1 : List Int} {n g : Nat} (hg : g < n) : (fsA r0 r1 n).getD g (0, 0) = (fi r0 r1 g, 1) := by
  rw [List.getD_eq_getElem?_getD, List.getElem?_eq_getElem (by rw [fsA_len]; exact hg), Option.getD_some]
  simp only [fsA, List.getElem_map, List.getElem_range, fshare, fi]
theorem fi_best {r0 r1 : Bool × List Int} (hp : Pts r0 r1) {x y : Nat} (hx : x < r0.2.length) (hy : y < r0.2.length) (h1 : fi r0.2 r1.2 x = 1) (h2 : fi r0.2 r1.2 y = 0) : at0 r0.2 y * at0 r1.2 x ≤ at0 r0.2 x * at0 r1.2 y := by
  have e1 : at0 r1.2 x ≤ at0 r0.2 x := by unfold fi at h1; split at h1 <;> simp_all
  have e2 : at0 r0.2 y ≤ at0 r1.2 y := by unfold fi at h2; split at h2 <;> first | omega | simp_all
  calc at0 r0.2 y * at0 r1.2 x ≤ at0 r1.2 y * at0 r1.2 x := Int.mul_le_mul_of_nonneg_right e2 (hp.b1 x hx).1
    _ ≤ at0 r1.2 y * at0 r0.2 x := Int.mul_le_mul_of_nonneg_left e1 (hp.b1 y hy).1
    _ = at0 r0.2 x * at0 r1.2 y := Int.mul_comm _ _
theorem first_hrs {r0 r1 : Bool × List Int} (hp : Pts r0 r1) : Hrs r0 r1 (fsA r0.2 r1.2 r0.2.length) 1 (fi r0.2 r1.2) := by
  refine ⟨by omega, by omega, fun g _ => ?_, fsA_len, fun g hg => ?_, ⟨0, fun g _ _ => fi01⟩, fun x y hx hy h1 h2 => ?_⟩
  · rcases fi01 (r0 := r0.2) (r1 := r1.2) (g := g) with e | e <;> omega
  · rw [fsA_at hg]
    rcases fi01 (r0 := r0.2) (r1 := r1.2) (g := g) with e | e <;> rw [e]
    · exact qd_zero.symm
    · exact (qd_one (by omega)).symm
  · refine fi_best hp hx hy ?_ ?_
    · rcases fi01 (r0 := r0.2) (r1 := r1.2) (g := x) with e | e <;> omega
    · rcases fi01 (r0 := r0.2) (r1 := r1.2) (g := y) with e | e <;> omega

theorem deal_start {r0 r1 u v : Bool × List Int} {fr : Int} (hp : Pts r0 r1) (hcase : (fr = 0 ∧ u = r0 ∧ v = r1) ∨ (fr = 1 ∧ u = r1 ∧ v = r0)) {x y : Int} (hx : x = sm (fun g => at0 u.2 g * (if fr = 0 then fi r0.2 r1.2 g else 1 - fi r0.2 r1.2 g)) r0.2.length)
    (hy : y = sm (fun g => at0 v.2 g * (1 - (if fr = 0 then fi r0.2 r1.2 g else 1 - fi r0.2 r1.2 g))) r0.2.length) (hge : y ≤ x) :
    Dl u.2 v.2 fr r0.2.length (tOrd [r0, r1] fr) (x, y, fsA r0.2 r1.2 r0.2.length) (fun g => if fr = 0 then fi r0.2 r1.2 g else 1 - fi r0.2 r1.2 g) := by
  obtain ⟨hs, hm⟩ := tOrd_facts hp hcase
  have ho := ordOk hp.h hcase
  refine ⟨fsA_len, fun g hg => ?_, fun g _ => ?_, hx, hy, hge, fun g hg => ?_, ho.nd, fun i hi hc hn => ?_, fun a b ha hb h1 h2 => ?_, hs⟩
  · show (fsA r0.2 r1.2 r0.2.length).getD g (0, 0) = _
    rw [fsA_at hg]
    rcases hcase with ⟨rfl, _⟩ | ⟨rfl, _⟩ <;> simp
    omega
  · rcases fi01 (r0 := r0.2) (r1 := r1.2) (g := g) with e | e <;> rcases hcase with ⟨rfl, _⟩ | ⟨rfl, _⟩ <;> simp [e]
  · obtain ⟨i, e, _, _, hw⟩ := ho.at' g hg
    subst e
    have h1 := (hm i).1 hg
    refine ⟨i, rfl, h1.1, ?_, hw⟩
    have := h1.2.1
    rcases hcase with ⟨rfl, _⟩ | ⟨rfl, _⟩ <;> simp <;> omega
  · have h1 : ¬ 0 < at0 r0.2 i + at0 r1.2 i := fun hw => hn ((hm i).2 ⟨hi, by
      rcases hcase with ⟨rfl, _⟩ | ⟨rfl, _⟩ <;> simp at hc <;> omega, hw⟩)
    have := hp.b0 i hi
    have := hp.b1 i hi
    rcases hcase with ⟨rfl, rfl, rfl⟩ | ⟨rfl, rfl, rfl⟩ <;> omega
  · rcases hcase with ⟨rfl, rfl, rfl⟩ | ⟨rfl, rfl, rfl⟩
    · simp at h1 h2; exact fi_best hp ha hb h1 h2
    · simp at h1 h2
      have := fi_best hp hb ha (by omega) (by omega)
      rw [Int.mul_comm (at0 u.2 b), Int.mul_comm (at0 u.2 a)]; exact this

theorem adj_hrs {r0 r1 : Bool × List Int} (hp : Pts r0 r1) : ∃ D t, Hrs r0 r1 (adjL [r0, r1]) D t ∧ sm (fun g => at0 r0.2 g * t g) r0.2.length = sm (fun g => at0 r1.2 g * (D - t g)) r0.2.length := by
  have ec := cntS_sm (r0 := r0.2) (r1 := r1.2) (k := r0.2.length)
  simp only [adjL, if_pos hp.h]
  rw [ec]
  simp only
  by_cases hg : giveR (sm (fun g => at0 r0.2 g * fi r0.2 r1.2 g) r0.2.length, sm (fun g => at0 r1.2 g * (1 - fi r0.2 r1.2 g)) r0.2.length) = 0
  · rw [if_pos hg]
    have hge : sm (fun g => at0 r1.2 g * (1 - fi r0.2 r1.2 g)) r0.2.length ≤ sm (fun g => at0 r0.2 g * fi r0.2 r1.2 g) r0.2.length := by
      unfold giveR at hg; split at hg <;> omega
    obtain ⟨D, T, h⟩ := deal_parts (.inl rfl) hp.b0 hp.b1 (deal_start (u := r0) (v := r1) hp (.inl ⟨rfl, rfl, rfl⟩) (by simp) (by simp) hge)
    refine ⟨D, T, ⟨h.d1, h.d2, h.t, h.ln, fun g hg => by have := h.sh g hg; simpa using this, h.one, h.best⟩, h.eq⟩
  · rw [if_neg hg]
    have hge : sm (fun g => at0 r0.2 g * fi r0.2 r1.2 g) r0.2.length ≤ sm (fun g => at0 r1.2 g * (1 - fi r0.2 r1.2 g)) r0.2.length := by
      unfold giveR at hg; split at hg <;> omega
    obtain ⟨D, T, h⟩ := deal_parts (.inr rfl) hp.b1 hp.b0 (deal_start (u := r1) (v := r0) hp (.inr ⟨rfl, rfl, rfl⟩) (by simp) (by
      refine sm_congr fun g _ => ?_
      simp only [show ¬ (1 : Int) = 0 by omega, if_false]
      rw [show 1 - (1 - fi r0.2 r1.2 g) = fi r0.2 r1.2 g by omega]) hge)
    refine ⟨D, fun g => D - T g, ⟨h.d1, h.d2, fun g hg => by have := h.t g hg; omega, h.ln, fun g hg => by have := h.sh g hg; simpa using this, ?_, fun x y hx hy h1 h2 => ?_⟩, ?_⟩
    · obtain ⟨i, hi⟩ := h.one
      exact ⟨i, fun g hg hgi => by rcases hi g hg hgi with e | e <;> simp only [e] <;> omega⟩
    · have := h.best y x hy hx (by omega) (by omega)
      rw [Int.mul_comm (at0 r0.2 y), Int.mul_comm (at0 r0.2 x)]; exact this
    · simp only [show ∀ g, D - (D - T g) = T g from fun g => by omega]
      exact h.eq.symm

end Go.Proofs.Ytakladjlnkojjaa.Ax

/-
  Heirs: what shares in parts are worth; a half at least; swaps. No condition.
-/
namespace Go.Proofs.Ytakladjlnkojjaa.Ax
open Go Go.RowKit
set_option linter.unusedSimpArgs false

theorem sm_bd {f : Nat → Int} {c : Int} : ∀ {n : Nat}, (∀ i, i < n → 0 ≤ f i ∧ f i ≤ c) → 0 ≤ sm f n ∧ sm f n ≤ c * n
  | 0, _ => by simp [sm]
  | n + 1, h => by
    have h1 := sm_bd (n := n) fun i hi => h i (by omega)
    have h2 := h n (by omega)
    simp only [sm]
    rw [show c * ((n + 1 : Nat) : Int) = c * n + c by rw [Int.natCast_add, Int.mul_add]; simp]
    omega
theorem sumW_sm {xs : List Int} (h : ∀ x ∈ xs, 0 ≤ x ∧ x ≤ 100) (hl : xs.length ≤ 6) : ∀ {k : Nat}, k ≤ xs.length → sumW (xs.take k) = sm (at0 xs) k
  | 0, _ => by simp [sumW, sm]
  | k + 1, hk => by
    have h1 := sumW_sm h hl (k := k) (by omega)
    have h2 := sm_bd (f := at0 xs) (c := 100) (n := k) fun i hi => by rw [at0_eq (by omega)]; exact h _ (List.getElem_mem _)
    have h3 := h _ (List.getElem_mem (show k < xs.length by omega))
    rw [sumW_succ (by omega), h1, wrapI (by omega) (by omega)]
    simp only [sm]
    rw [at0_eq (by omega)]
theorem pts_of {r0 r1 : Bool × List Int} (h : pointsB [r0, r1] = true) : Pts r0 r1 := by
  obtain ⟨h2, hr⟩ := points_facts h
  have hl := rect_len hr
  have hr1 := rect_row hr (i := 1) (by simp)
  have hr0 := rect_row hr (i := 0) (by simp)
  simp only [wid, List.headD_cons] at hl hr1 hr0
  simp only [List.getElem_cons_succ, List.getElem_cons_zero] at hr1 hr0
  have h' := h
  simp only [pointsB, rowP, Bool.and_eq_true, decide_eq_true_eq] at h'
  have s0 := sumW_sm hr0.2 (by omega) (Nat.le_refl _)
  have s1 := sumW_sm hr1.2 (by omega) (Nat.le_refl _)
  rw [List.take_length] at s0 s1
  exact ⟨h, by omega, by omega, by omega, fun i hi => by rw [at0_eq hi]; exact hr0.2 _ (List.getElem_mem _), fun i hi => by rw [at0_eq (show i < r1.2.length by omega)]; exact hr1.2 _ (List.getElem_mem _),
    by rw [← s0]; exact h'.2.1.2, by rw [← hr1.1, ← s1]; exact h'.2.2.2⟩

theorem mulF_qd {e a D : Int} (he : 0 ≤ e ∧ e ≤ 100) (hD : 0 < D) (hD2 : D ≤ 200) (ha : 0 ≤ a ∧ a ≤ D) : mulF (e, 1) (qd a D) = (qd (e * a) D, true) := by
  have hm : 0 ≤ e * a ∧ e * a ≤ 20000 := by
    have h1 := Int.mul_nonneg he.1 ha.1
    have h2 : e * a ≤ 100 * 200 := Int.le_trans (Int.mul_le_mul_of_nonneg_right he.2 ha.1) (Int.mul_le_mul_of_nonneg_left (by omega) (by omega))
    exact ⟨h1, by omega⟩
  have f1 : fracOk (e, 1) = true := fracOk_mk (by omega) (by omega) (by omega) (by omega) (by simp)
  have f2 : fracOk (qd a D) = true := qd_ok hD (by omega) (by omega)
  obtain ⟨g, g0, e1, e2⟩ := qd_parts (a := a) hD
  have hq : qd (e * (qd a D).1) (1 * (qd a D).2) = qd (e * a) D := by
    have := qd_scale (a := e * (qd a D).1) (D := (qd a D).2) g0
    rw [Int.one_mul, ← this]
    congr 1
    · rw [Int.mul_left_comm, Int.mul_comm g, e1]
    · rw [Int.mul_comm, e2]
  unfold mulF
  rw [f1, f2]
  simp only [Bool.and_self, if_true]
  rw [mkF_qd (by rw [Int.one_mul]; exact qd_den hD), hq, if_pos (qd_ok hD (by omega) (by omega))]

/-- What thing g gives the heir who, in parts. -/
def wg (r0 r1 : List Int) (D : Int) (t : Nat → Int) (who : Int) (g : Nat) : Int := if who = 1 then at0 r1 g * (D - t g) else at0 r0 g * t g
theorem wg_0 {r0 r1 : List Int} {D : Int} {t : Nat → Int} {g : Nat} : wg r0 r1 D t 0 g = at0 r0 g * t g := by simp [wg]
theorem wg_1 {r0 r1 : List Int} {D : Int} {t : Nat → Int} {g : Nat} : wg r0 r1 D t 1 g = at0 r1 g * (D - t g) := by simp [wg]
section
variable {r0 r1 : Bool × List Int} {R : List (Int × Int)} {D : Int} {t : Nat → Int} (hp : Pts r0 r1) (h : Hrs r0 r1 R D t)
include hp h
theorem wg_bd {who : Int} {g : Nat} (hg : g < r0.2.length) : 0 ≤ wg r0.2 r1.2 D t who g ∧ wg r0.2 r1.2 D t who g ≤ 20000 := by
  have h1 := hp.b0 g hg
  have h2 := hp.b1 g hg
  have h3 := h.tb g hg
  have h4 := h.d2
  unfold wg
  split
  · exact ⟨Int.mul_nonneg h2.1 (by omega), Int.le_trans (Int.mul_le_mul_of_nonneg_right h2.2 (by omega)) (by omega)⟩
  · exact ⟨Int.mul_nonneg h1.1 (by omega), Int.le_trans (Int.mul_le_mul_of_nonneg_right h1.2 (by omega)) (by omega)⟩
theorem heirTo_qd {who : Int} (hw : who = 0 ∨ who = 1) : ∀ {k : Nat}, k ≤ r0.2.length → heirTo [r0, r1] R who k = (qd (sm (wg r0.2 r1.2 D t who) k) D, true)
  | 0, _ => by simp [heirTo, sm, qd_zero]
  | k + 1, hk => by
    have ih := heirTo_qd hw (k := k) (by omega)
    have hD := h.d1
    have hD2 := h.d2
    have ht := h.tb k (by omega)
    have hm : mulF (ent [r0, r1] who.toNat k, 1) (turnF who (R.getD k (0, 0))) = (qd (wg r0.2 r1.2 D t who k) D, true) := by
      rw [h.sh k (by omega)]
      rcases hw with rfl | rfl
      · exact mulF_qd (hp.b0 k (by omega)) (by omega) hD2 ht
      · have e : turnF 1 (qd (t k) D) = qd (D - t k) D := qd_compl (by omega) hD2 ht.1 ht.2
        rw [e]
        exact mulF_qd (hp.b1 k (by omega)) (by omega) hD2 (by omega)
    have h1 := sm_bd (n := k) fun i hi => wg_bd hp h (who := who) (g := i) (by omega)
    have h2 := wg_bd hp h (who := who) (g := k) (by omega)
    have h6 := hp.n6
    rw [heirTo, ih, hm]
    simp only [Bool.and_self, if_true, sm]
    rw [addF_qd (by omega) (by omega) (by omega) (by omega) (by omega)]
theorem hrs_shares : sharesB [r0, r1] R = true := by
  simp only [sharesB, hp.h, Bool.true_and, Bool.and_eq_true, decide_eq_true_eq, List.all_eq_true]
  refine ⟨by simp [wid, h.ln], fun f hf => ?_⟩
  obtain ⟨g, hg, rfl⟩ := List.getElem_of_mem hf
  have := h.sh g (by rw [← h.ln]; exact hg)
  rw [List.getD_eq_getElem?_getD, List.getElem?_eq_getElem hg, Option.getD_some] at this
  have hb := h.tb g (by rw [← h.ln]; exact hg)
  rw [this]
  exact qd_part (by have := h.d1; omega) h.d2 hb.1 hb.2
theorem heirF_qd {who : Int} (hw : who = 0 ∨ who = 1) : heirF [r0, r1] R who = (qd (sm (wg r0.2 r1.2 D t who) r0.2.length) D, true) := by
  unfold heirF
  rw [hrs_shares hp h, h.ln, heirTo_qd hp h hw (Nat.le_refl _)]
  rcases hw with rfl | rfl <;> simp [inR]
theorem hrs_best : bestHB [r0, r1] R = true := by
  simp only [bestHB, hrs_shares hp h, Bool.true_and]
  have hD := h.d1
  refine allR_yes fun x hx => allR_yes fun y hy => ?_
  rw [h.ln] at hx hy
  simp only [bestAt, Bool.not_eq_true', Bool.and_eq_false_iff, decide_eq_false_iff_not]
  rw [h.sh x hx, h.sh y hy]
  by_cases h1 : 0 < t x
  · by_cases h2 : t y < D
    · right
      have := h.best x y hx hy h1 h2
      have e : ∀ k : Nat, ent [r0, r1] 0 (k : Int) = at0 r0.2 k ∧ ent [r0, r1] 1 (k : Int) = at0 r1.2 k := fun k => ⟨rfl, rfl⟩
      rw [(e x).1, (e y).2, (e y).1, (e x).2]; omega
    · left; right
      have : t y = D := by have := (h.tb y hy).2; omega
      rw [this, qd_one (by omega)]; omega
  · left; left
    have : t x = 0 := by have := (h.tb x hx).1; omega
    rw [this, qd_zero]; omega
/-- Both have the same: a half at least. -/
theorem hrs_half (he : sm (wg r0.2 r1.2 D t 0) r0.2.length = sm (wg r0.2 r1.2 D t 1) r0.2.length) : 50 * D ≤ sm (wg r0.2 r1.2 D t 0) r0.2.length := by
  have hD := h.d1
  have e0 : sm (fun g => at0 r0.2 g * (D - t g)) r0.2.length + sm (wg r0.2 r1.2 D t 0) r0.2.length = D * 100 := by
    rw [← sm_add, ← hp.s0, ← sm_mulL]
    refine sm_congr fun g _ => ?_
    rw [wg_0, ← Int.mul_add, Int.mul_comm]; congr 1; omega
  have e1 : sm (fun g => at0 r1.2 g * t g) r0.2.length + sm (wg r0.2 r1.2 D t 1) r0.2.length = D * 100 := by
    rw [← sm_add, ← hp.s1, ← sm_mulL]
    refine sm_congr fun g _ => ?_
    rw [wg_1, ← Int.mul_add, Int.mul_comm]; congr 1; omega
  have key := sm_mul_le (A := wg r0.2 r1.2 D t 0) (B := wg r0.2 r1.2 D t 1) (B' := fun g => at0 r1.2 g * t g) (A' := fun g => at0 r0.2 g * (D - t g)) (n := r0.2.length) (m := r0.2.length) fun x y hx hy => by
    have tx := h.tb x hx
    have ty := h.tb y hy
    rw [wg_0, wg_1]
    have e : at0 r1.2 x * t x * (at0 r0.2 y * (D - t y)) = (at0 r0.2 y * at0 r1.2 x) * (t x * (D - t y)) := by grind
    have e' : at0 r0.2 x * t x * (at0 r1.2 y * (D - t y)) = (at0 r0.2 x * at0 r1.2 y) * (t x * (D - t y)) := by grind
    rw [e, e']
    by_cases h1 : 0 < t x
    · by_cases h2 : t y < D
      · exact Int.mul_le_mul_of_nonneg_right (h.best x y hx hy h1 h2) (Int.mul_nonneg tx.1 (by omega))
      · rw [show D - t y = 0 by omega]; simp
    · rw [show t x = 0 by omega]; simp
  have n0 := (sm_bd (n := r0.2.length) fun i hi => wg_bd hp h (who := 0) (g := i) hi).1
  rw [← he] at key e1
  generalize sm (wg r0.2 r1.2 D t 0) r0.2.length = N at *
  rw [show sm (fun g => at0 r1.2 g * t g) r0.2.length = D * 100 - N by omega, show sm (fun g => at0 r0.2 g * (D - t g)) r0.2.length = D * 100 - N by omega] at key
  rcases Int.lt_or_le N (50 * D) with hlt | hle
  · exfalso
    have k1 := Int.mul_le_mul_of_nonneg_left (show N ≤ D * 100 - N by omega) n0
    have k2 := Int.mul_lt_mul_of_pos_right (show N < D * 100 - N by omega) (show 0 < D * 100 - N by omega)
    omega
  · exact hle
end
/-- By the first shares the two have the most together. -/
theorem first_most {r0 r1 : Bool × List Int} {R : List (Int × Int)} {D : Int} {t : Nat → Int} (hp : Pts r0 r1) (h : Hrs r0 r1 R D t) :
    sm (wg r0.2 r1.2 D t 0) r0.2.length + sm (wg r0.2 r1.2 D t 1) r0.2.length ≤ D * (sm (wg r0.2 r1.2 1 (fi r0.2 r1.2) 0) r0.2.length + sm (wg r0.2 r1.2 1 (fi r0.2 r1.2) 1) r0.2.length) := by
  rw [← sm_add, ← sm_add, ← sm_mulL]
  refine sm_le fun g hg => ?_
  have h1 := h.tb g hg
  have a0 := (hp.b0 g hg).1
  have a1 := (hp.b1 g hg).1
  rw [wg_0, wg_1, wg_0, wg_1]
  have k1 : at0 r0.2 g * t g + at0 r0.2 g * (D - t g) = D * at0 r0.2 g := by rw [← Int.mul_add, Int.mul_comm]; congr 1; omega
  have k2 : at0 r1.2 g * t g + at0 r1.2 g * (D - t g) = D * at0 r1.2 g := by rw [← Int.mul_add, Int.mul_comm]; congr 1; omega
  unfold fi
  split
  · rename_i hle
    have := Int.mul_le_mul_of_nonneg_right hle (show 0 ≤ D - t g by omega)
    simp; omega
  · rename_i hlt
    have := Int.mul_le_mul_of_nonneg_right (show at0 r0.2 g ≤ at0 r1.2 g by omega) h1.1
    simp; omega

end Go.Proofs.Ytakladjlnkojjaa.Ax

/-
  Heirs: split things; a half and the most, in least terms; the order of passing on. No condition.
-/
namespace Go.Proofs.Ytakladjlnkojjaa.Ax
open Go Go.RowKit
set_option linter.unusedSimpArgs false

def isSpl (f : Int × Int) : Bool := fracOk f && !decide (f = (0, 1)) && !decide (f = (1, 1))
theorem spl_count {R : List (Int × Int)} {i : Nat} (h : ∀ g (hg : g < R.length), g ≠ i → isSpl R[g] = false) : ∀ {k : Nat}, k ≤ R.length → (R.take k).countP isSpl ≤ (if i < k then 1 else 0)
  | 0, _ => by simp
  | k + 1, hk => by
    have ih := spl_count h (k := k) (by omega)
    rw [List.take_succ_eq_append_getElem (by omega), List.countP_append, List.countP_singleton]
    by_cases e : k = i
    · subst e
      rw [if_neg (Nat.lt_irrefl _)] at ih
      rw [if_pos (Nat.lt_succ_self _)]
      split <;> omega
    · rw [h k (by omega) e]
      simp only [Bool.false_eq_true, if_false, Nat.add_zero]
      by_cases hi : i < k
      · rw [if_pos hi] at ih; rw [if_pos (by omega)]; exact ih
      · rw [if_neg hi] at ih; omega
theorem hrs_split {r0 r1 : Bool × List Int} {R : List (Int × Int)} {D : Int} {t : Nat → Int} (h : Hrs r0 r1 R D t) : R.countP isSpl ≤ 1 := by
  obtain ⟨i, hi⟩ := h.one
  have hD := h.d1
  have := spl_count (R := R) (i := i) (fun g hg hgi => by
    have hs := h.sh g (by rw [← h.ln]; exact hg)
    rw [List.getD_eq_getElem?_getD, List.getElem?_eq_getElem hg, Option.getD_some] at hs
    rw [hs]
    rcases hi g (by rw [← h.ln]; exact hg) hgi with e | e <;> rw [e]
    · rw [qd_zero]; decide
    · rw [qd_one (by omega)]; decide) (Nat.le_refl _)
  rw [List.take_length] at this
  split at this <;> omega
theorem first_split {r0 r1 : List Int} {n : Nat} : (fsA r0 r1 n).countP isSpl = 0 := by
  rw [List.countP_eq_zero]
  intro f hf
  simp only [fsA, List.mem_map, List.mem_range, fshare] at hf
  obtain ⟨g, _, rfl⟩ := hf
  split <;> decide
theorem qd_int {a : Int} : qd a 1 = (a, 1) := by
  obtain ⟨g, g0, e1, e2⟩ := qd_parts (a := a) (D := 1) (by omega)
  have hd := qd_den (a := a) (D := 1) (by omega)
  have h1 : (qd a 1).2 = 1 := by
    rcases Int.lt_or_le 1 (qd a 1).2 with h | h
    · have := Int.mul_le_mul_of_nonneg_left (show 1 ≤ g by omega) (show 0 ≤ (qd a 1).2 by omega); omega
    · omega
  rw [h1] at e2
  have hg : g = 1 := by omega
  rw [hg] at e1
  have h2 : (qd a 1).1 = a := by omega
  exact Prod.ext h2 h1
theorem half_top {N D : Int} (hD : 0 < D) (h : 50 * D ≤ N) : 50 * (qd N D).2 ≤ (qd N D).1 := by
  obtain ⟨g, g0, e1, e2⟩ := qd_parts (a := N) hD
  rcases Int.lt_or_le (qd N D).1 (50 * (qd N D).2) with h1 | h1
  · have := Int.mul_lt_mul_of_pos_right h1 g0
    rw [Int.mul_assoc, e1, e2] at this; omega
  · exact h1
theorem most_top {N D M : Int} (hD : 0 < D) (hN : 0 ≤ N) (h : N + N ≤ D * M) : (qd N D).1.tdiv (qd N D).2 * 2 ≤ M := by
  obtain ⟨g, g0, e1, e2⟩ := qd_parts (a := N) hD
  have hq := qd_den (a := N) hD
  have hp : 0 ≤ (qd N D).1 := by
    rcases Int.lt_or_le (qd N D).1 0 with h1 | h1
    · have := Int.mul_lt_mul_of_pos_right h1 g0; omega
    · exact h1
  generalize (qd N D).1 = p at *
  generalize (qd N D).2 = q at *
  have hm : 2 * p ≤ q * M := by
    rcases Int.lt_or_le (q * M) (2 * p) with h1 | h1
    · have := Int.mul_lt_mul_of_pos_right h1 g0
      rw [Int.mul_right_comm, e2, Int.mul_assoc, e1] at this; omega
    · exact h1
  rw [Int.tdiv_eq_ediv_of_nonneg hp]
  have h2 := Int.ediv_mul_le p (show q ≠ 0 by omega)
  rcases Int.lt_or_le M (p / q * 2) with h1 | h1
  · have h3 := Int.mul_lt_mul_of_pos_left h1 hq
    rw [show q * (p / q * 2) = 2 * (p / q * q) by rw [← Int.mul_assoc, Int.mul_comm q, Int.mul_comm]] at h3; omega
  · exact h1
/-- The order of passing on, from heir 0: things of his, the cheapest first. -/
theorem order0 {r0 r1 : Bool × List Int} (hp : Pts r0 r1) : ∀ k (hk : k < (tOrd [r0, r1] 0).length), ∃ i : Nat, (tOrd [r0, r1] 0)[k] = i ∧ i < r0.2.length ∧ fi r0.2 r1.2 i = 1 ∧
    ∀ m : Nat, (hm : 0 < k) → (tOrd [r0, r1] 0)[k - 1]'(by omega) = (m : Int) → at0 r0.2 m * at0 r1.2 i ≤ at0 r0.2 i * at0 r1.2 m := by
  intro k hk
  obtain ⟨hs, hm⟩ := tOrd_facts hp (.inl ⟨rfl, rfl, rfl⟩)
  have ho := ordOk hp.h (u := r0) (v := r1) (.inl ⟨rfl, rfl, rfl⟩)
  obtain ⟨i, e, _⟩ := ho.at' _ (List.getElem_mem hk)
  have h1 := (hm i).1 (by rw [← e]; exact List.getElem_mem hk)
  refine ⟨i, e, h1.1, by have := h1.2.1; omega, fun m h0 he => ?_⟩
  have := (List.pairwise_iff_getElem.1 hs) (k - 1) k (by omega) hk (by omega)
  rw [e, he] at this
  simpa [leR] using this

end Go.Proofs.Ytakladjlnkojjaa.Ax

/-
  Contracts: a cursor's next byte (the reference's draws). No condition.
-/
namespace Go.Proofs.Ytakladjlnkojjaa.Ax
open Go Go.RowKit
set_option linter.unusedSimpArgs false

def bAV (n : Int) : AV := .v (.int .u8 n)
def byts (nl : Bool) (l : List Int) : AV := .sl nl 1 (l.map bAV)

/-- The next state; the byte that it gives by itself; the byte with the code's own; the cursor behind it. -/
def stB (h : Int) : Int := wrap64 (wrap64 (h * 6364136223846793005) + 1442695040888963407)
def byB (h : Int) : Int := bits .and .i64 (bits .xor .i64 (stB h / 8589934592) (stB h / 35184372088832)) 255
def crX (by' : List Int) (s : Int × Int) : Int := if s.1 < (by'.length : Int) then bits .and .i64 (wrap64 (byB s.2 + wrap64 (by'.getD s.1.toNat 0))) 255 else byB s.2
def crS (by' : List Int) (s : Int × Int) : Int × Int := if s.1 < (by'.length : Int) then (wrap64 (s.1 + 1), stB s.2) else (s.1, stB s.2)
theorem and255 (x : Int) : 0 ≤ bits .and .i64 x 255 ∧ bits .and .i64 x 255 ≤ 255 := by
  have h : (BitVec.ofInt IntKind.i64.bits x &&& BitVec.ofInt IntKind.i64.bits 255).toNat ≤ 255 := by
    rw [BitVec.toNat_and]
    exact Nat.le_trans Nat.and_le_right (by decide)
  have e : bits .and .i64 x 255 = IntKind.i64.wrap ((BitVec.ofInt IntKind.i64.bits x &&& BitVec.ofInt IntKind.i64.bits 255).toNat : Int) := rfl
  rw [e, wrapI (by omega) (by omega)]
  omega
theorem crX_bd {by' : List Int} {s : Int × Int} : 0 ≤ crX by' s ∧ crX by' s ≤ 255 := by
  unfold crX byB; split <;> exact and255 _

/-- A cursor that can be: it stands within its code. -/
structure CrOk (by' : List Int) (s : Int × Int) : Prop where
  few : by'.length ≤ 1048576
  i0 : 0 ≤ s.1
  il : s.1 ≤ (by'.length : Int)
theorem CrOk.next {by' : List Int} {s : Int × Int} (h : CrOk by' s) : CrOk by' (crS by' s) := by
  have h1 := h.few; have h2 := h.i0; have h3 := h.il
  unfold crS
  split
  · have e : wrap64 (s.1 + 1) = s.1 + 1 := by unfold wrap64; omega
    exact ⟨h1, by simp only [e]; omega, by simp only [e]; omega⟩
  · exact ⟨h1, h2, h3⟩

theorem cur_heap {code : Value} {T : TypeId} {b : Nat} {w : World} {i h u v : Int} {n : Nat} (hb : w.heap[b]? = some (curC code T (i, h))) :
    ((((w.setCell ⟨b, 2, none⟩ (.int .i64 u)).drewN n).setCell ⟨b, 1, none⟩ (.int .i64 v)).heap[b]? = some (curC code T (v, u)) ∧ Frm (fun x => x = b) w (((w.setCell ⟨b, 2, none⟩ (.int .i64 u)).drewN n).setCell ⟨b, 1, none⟩ (.int .i64 v))) ∧
    (((w.setCell ⟨b, 2, none⟩ (.int .i64 u)).drewN n).heap[b]? = some (curC code T (i, u)) ∧ Frm (fun x => x = b) w ((w.setCell ⟨b, 2, none⟩ (.int .i64 u)).drewN n)) := by
  refine ⟨⟨?_, rfl, rfl, rfl, ?_, fun k _ hk => ?_⟩, ?_, rfl, rfl, rfl, ?_, fun k _ hk => ?_⟩
  · simp [World.setCell, World.drewN, Array.getElem?_modify, hb, curC]
  · simp [World.setCell, World.drewN]
  · have : ¬ b = k := fun e => hk e.symm
    simp [World.setCell, World.drewN, Array.getElem?_modify, this]
  · simp [World.setCell, World.drewN, Array.getElem?_modify, hb, curC]
  · simp [World.setCell, World.drewN]
  · have : ¬ b = k := fun e => hk e.symm
    simp [World.setCell, World.drewN, Array.getElem?_modify, this]

theorem cur_heap2 {code : Value} {T : TypeId} {b : Nat} {w : World} {i h u : Int} {m n : Nat} (hb : w.heap[b]? = some (curC code T (i, h))) :
    (((w.setCell ⟨b, 2, none⟩ (.int .i64 u)).drewN m).drewN n).heap[b]? = some (curC code T (i, u)) ∧ Frm (fun x => x = b) w (((w.setCell ⟨b, 2, none⟩ (.int .i64 u)).drewN m).drewN n) := by
  refine ⟨?_, rfl, rfl, rfl, ?_, fun k _ hk => ?_⟩
  · simp [World.setCell, World.drewN, Array.getElem?_modify, hb, curC]
  · simp [World.setCell, World.drewN]
  · have : ¬ b = k := fun e => hk e.symm
    simp [World.setCell, World.drewN, Array.getElem?_modify, this]

section
variable (b : Nat) (w : World) (ad : Option Addr) (len cap : Nat)
theorem l01Byte_in (i : Nat) (h : Int) (hb : w.heap[b]? = some (curC (.slice ad len cap) 87 (i, h))) (v : Int) (cb co : Nat) (had : ad = some ⟨cb, co, none⟩) (hne : cb ≠ b) (hcv : w.cell? ⟨cb, co + i, none⟩ = some (.int .u8 v)) (hlt : i < len) :
    Calls Try.prog 50 #[ptrV b] w fun e w' => e = .returned (.int .i64 (bits .and .i64 (wrap64 (byB h + wrap64 v)) 255)) ∧ Frm (fun x => x = b) w w' ∧ w'.heap[b]? = some (curC (.slice ad len cap) 87 (wrap64 (i + 1), stB h)) := by
  have hc0 : w.cell? ⟨b, 0, none⟩ = some (.slice ad len cap) := by simp [World.cell?, hb, curC]
  have hc1 : w.cell? ⟨b, 1, none⟩ = some (.int .i64 i) := by simp [World.cell?, hb, curC]
  have hc2 : w.cell? ⟨b, 2, none⟩ = some (.int .i64 h) := by simp [World.cell?, hb, curC]
  have hf1 : w.frozen? ⟨b, 1, none⟩ = false := by simp [World.frozen?, hb, curC]
  have hf2 : w.frozen? ⟨b, 2, none⟩ = false := by simp [World.frozen?, hb, curC]
  unfold ptrV byB stB
  subst had
  have hlt' : (i : Int) < (len : Int) := by omega
  go_enter Try.func50, Try.ntmps50
  go_wp2
  go_quiet (fail)
  go_wp2
  go_quiet (fail)
  go_wp2
  go_quiet (fail)
  go_wp2
  go_ret
  exact ⟨rfl, (cur_heap hb).1.2, (cur_heap hb).1.1⟩
theorem l01Byte_out (i h : Int) (hb : w.heap[b]? = some (curC (.slice ad len cap) 87 (i, h))) (hlt : ¬ i < (len : Int)) :
    Calls Try.prog 50 #[ptrV b] w fun e w' => e = .returned (.int .i64 (byB h)) ∧ Frm (fun x => x = b) w w' ∧ w'.heap[b]? = some (curC (.slice ad len cap) 87 (i, stB h)) := by
  have hc0 : w.cell? ⟨b, 0, none⟩ = some (.slice ad len cap) := by simp [World.cell?, hb, curC]
  have hc1 : w.cell? ⟨b, 1, none⟩ = some (.int .i64 i) := by simp [World.cell?, hb, curC]
  have hc2 : w.cell? ⟨b, 2, none⟩ = some (.int .i64 h) := by simp [World.cell?, hb, curC]
  have hf1 : w.frozen? ⟨b, 1, none⟩ = false := by simp [World.frozen?, hb, curC]
  have hf2 : w.frozen? ⟨b, 2, none⟩ = false := by simp [World.frozen?, hb, curC]
  unfold ptrV byB stB
  go_enter Try.func50, Try.ntmps50
  go_wp2
  go_quiet (fail)
  go_wp2
  go_quiet (fail)
  go_wp2
  all_goals (go_ret; exact ⟨rfl, (cur_heap2 hb).2, (cur_heap2 hb).1⟩)
end

theorem l01Byte_cur {nl : Bool} {by' : List Int} {s : Int × Int} (hs : CrOk by' s) : CurOk Try.prog 50 (byts nl by') 87 [] s (crS by' s) (.v (.int .i64 (crX by' s))) := by
  refine ⟨⟨_, Try.func50, by kernel_rfl, by kernel_rfl⟩, fun code b w F vals hbytes hb hF hbF hvals => ?_⟩
  simp only [RepL] at hvals
  subst hvals
  obtain ⟨i, h⟩ := s
  have h0 := hs.i0
  simp only at h0
  simp only [byts, Rep, List.length_map] at hbytes
  obtain ⟨ad, len, cap, rfl, hlen, _, _, hrow⟩ := hbytes
  subst hlen
  by_cases hi : i < (by'.length : Int)
  · have hin : i.toNat < by'.length := by omega
    rcases hrow with ⟨_, _, hz, _⟩ | ⟨cb, co, rfl, _, hrow⟩ | ⟨_, _, hz⟩
    · omega
    · obtain ⟨z, h1, _, _, hFb, h4⟩ := RepRow.get hrow i.toNat (bAV by'[i.toNat]) (by rw [List.getElem?_map, List.getElem?_eq_getElem hin]; rfl)
      simp only [Rep, bAV] at h1
      obtain ⟨rfl, _⟩ := h1
      have hcv : w.cell? ⟨cb, co + i.toNat, none⟩ = some (.int .u8 (by'.getD i.toNat 0)) := by
        rw [List.getD_eq_getElem?_getD, List.getElem?_eq_getElem hin]
        simpa using h4 0 (.int .u8 by'[i.toNat]) (by simp [Value.cells])
      obtain ⟨i, rfl⟩ := Int.eq_ofNat_of_zero_le h0
      rw [Int.toNat_natCast] at hin hcv
      refine (l01Byte_in b w _ by'.length cap i h hb _ cb co rfl (fun e => hbF (e ▸ hFb)) hcv hin).mono fun e w' he => ?_
      obtain ⟨rfl, hfr, hw⟩ := he
      refine ⟨_, fun _ => False, rfl, hfr, ?_, fun _ h => h.elim, ?_⟩
      · rw [hw]; simp only [crS, if_pos hi]
      · simp only [Own, crX, if_pos hi, Int.toNat_natCast, Value.oneCell', and_self]
    · simp only [List.map_eq_nil_iff] at hz
      subst hz; simp at hin
  · refine (l01Byte_out b w ad by'.length cap i h hb hi).mono fun e w' he => ?_
    obtain ⟨rfl, hfr, hw⟩ := he
    refine ⟨_, fun _ => False, rfl, hfr, ?_, fun _ h => h.elim, ?_⟩
    · rw [hw]; simp only [crS, if_neg hi]
    · simp only [Own, crX, if_neg hi, Value.oneCell', and_self]

end Go.Proofs.Ytakladjlnkojjaa.Ax

/-
  Contracts: a number below a bound by a cursor; rows of such numbers (the reference's draws). No condition.
-/
namespace Go.Proofs.Ytakladjlnkojjaa.Ax
open Go Go.RowKit
set_option linter.unusedSimpArgs false

/-- The number below n that the next byte gives. -/
def bw (by' : List Int) (s : Int × Int) (n : Nat) : Int := (crX by' s).tmod (n : Int)
theorem bw_bd {by' : List Int} {s : Int × Int} {n : Nat} (h : 0 < n) : 0 ≤ bw by' s n ∧ bw by' s n < n := by
  have := crX_bd (by' := by') (s := s)
  unfold bw
  rw [Int.tmod_eq_emod_of_nonneg this.1]
  exact ⟨Int.emod_nonneg _ (by omega), Int.emod_lt_of_pos _ (by omega)⟩

theorem l01Below_cur {nl : Bool} {by' : List Int} {s : Int × Int} (hs : CrOk by' s) {n : Nat} (h0 : 0 < n) (hn : n ≤ 256) : CurOk Try.prog 81 (byts nl by') 87 [int n] s (crS by' s) (.v (.int .i64 (bw by' s n))) := by
  have hcur := l01Byte_cur (nl := nl) hs
  have hx := crX_bd (by' := by') (s := s)
  have hG : FnsOk Try.prog [] := .nil
  refine curOk_of_ty (dt := []) (ctx_ok eqOk hG) Try.func81 rfl (by kernel_rfl) (by kernel_rfl) fun w F0 code b hbytes hF0 hbF => ?_
  refine ty_seq (ty_awp (ctx_ok eqOk hG) mixed curJ_stable (live := [true, true, false, false, true, true, true, true, true, false, true, false, true]) fun X A w1 => ?_)
  simp [Try.f81, List.range, List.range.loop, ints, intss, int, bool, row, frac, fracs, ← List.map_take, ← List.map_drop, thenY_normal]
  refine ty_seq (ty_awp (ctx_ok eqOk hG) mixed curJ_stable (live := [true, true, false, false, true, true, true, true, true, false, true, false, true]) fun X A w1 => ?_)
  have hn0 : ¬ (n : Int) ≤ 0 := by omega
  have hn1 : ¬ n = 0 := by omega
  simp [List.range, List.range.loop, ints, intss, int, bool, row, frac, fracs, ← List.map_take, ← List.map_drop, thenY_normal, hn0, hn1]
  refine ty_seq (ty_seq (ty_awp (ctx_ok eqOk hG) mixed curJ_stable (live := [true, true, false, false, true, true, true, true, true, false, true, false, true]) fun X A w1 => ?_))
  have hn2 : (n : Int) ≤ 256 := by omega
  simp [List.range, List.range.loop, ints, intss, int, bool, row, frac, fracs, ← List.map_take, ← List.map_drop, thenY_normal, hn, hn2]
  refine ty_cond (t := true) (by rfl) (fun _ => ?_) (fun h => by cases h)
  refine ty_seq (ty_reg (tyo_ops 1 (ctx_ok eqOk hG) curJ_stable (by simp) ?_))
  simp [List.range, List.range.loop, ints, intss, int, bool, row, frac, fracs, ← List.map_take, ← List.map_drop]
  refine tyo_cur hbytes hF0 hbF hcur rfl rfl rfl (by rfl) (by rfl) (by rfl) ?_
  simp [List.range, List.range.loop, ints, intss, int, bool, row, frac, fracs, ← List.map_take, ← List.map_drop]
  refine tyo_ops 3 (ctx_ok eqOk hG) curJ_stable (by simp) ?_
  simp [List.range, List.range.loop, ints, intss, int, bool, row, frac, fracs, ← List.map_take, ← List.map_drop, hn1]
  refine tyo_end (by simp) ?_
  simp only [thenY_normal]
  refine ty_awp (ctx_ok eqOk hG) mixed curJ_stable (live := [true, true, false, false, true, true, true, true, true, false, true, false, true]) fun X A w1 => ?_
  simp [List.range, List.range.loop, ints, intss, int, bool, row, frac, fracs, ← List.map_take, ← List.map_drop, thenY_ret, bw]

/-- The cursor behind k bytes. -/
def crN (by' : List Int) (s : Int × Int) : Nat → Int × Int
  | 0 => s
  | k + 1 => crS by' (crN by' s k)
theorem crN_ok {by' : List Int} {s : Int × Int} (h : CrOk by' s) : ∀ k, CrOk by' (crN by' s k)
  | 0 => h
  | k + 1 => (crN_ok h k).next
/-- The number below m that byte k gives. -/
def bk (by' : List Int) (s : Int × Int) (m k : Nat) : Int := bw by' (crN by' s k) m
theorem bk_bd {by' : List Int} {s : Int × Int} {m k : Nat} (h : 0 < m) : 0 ≤ bk by' s m k ∧ bk by' s m k < m := bw_bd h
/-- A row of g such numbers, from byte k on. -/
def drR (by' : List Int) (s : Int × Int) (m k g : Nat) : List Int := (List.range g).map fun j => bk by' s m (k + j)
theorem drR_succ {by' : List Int} {s : Int × Int} {m k g : Nat} : drR by' s m k (g + 1) = drR by' s m k g ++ [bk by' s m (k + g)] := by unfold drR; rw [List.range_succ, List.map_append]; rfl
theorem drR_len {by' : List Int} {s : Int × Int} {m k g : Nat} : (drR by' s m k g).length = g := by simp [drR]
/-- n rows. -/
def drT (by' : List Int) (s : Int × Int) (m g n : Nat) : List (Bool × List Int) := (List.range n).map fun i => (false, drR by' s m (2 + i * g) g)
theorem drT_succ {by' : List Int} {s : Int × Int} {m g n : Nat} : drT by' s m g (n + 1) = drT by' s m g n ++ [(false, drR by' s m (2 + n * g) g)] := by unfold drT; rw [List.range_succ, List.map_append]; rfl
theorem drT_len {by' : List Int} {s : Int × Int} {m g n : Nat} : (drT by' s m g n).length = n := by simp [drT]
/-- How many rows, how wide. -/
def drN (by' : List Int) (s : Int × Int) (a : Nat) : Nat := (1 + bk by' s a 0).toNat
def drG (by' : List Int) (s : Int × Int) (b : Nat) : Nat := (1 + bk by' s b 1).toNat
theorem drN_bd {by' : List Int} {s : Int × Int} {a : Nat} (h : 0 < a) : 1 ≤ drN by' s a ∧ drN by' s a ≤ a ∧ 1 + bk by' s a 0 = (drN by' s a : Int) := by
  have := bk_bd (by' := by') (s := s) (k := 0) h
  unfold drN; omega
theorem drG_bd {by' : List Int} {s : Int × Int} {b : Nat} (h : 0 < b) : 1 ≤ drG by' s b ∧ drG by' s b ≤ b ∧ 1 + bk by' s b 1 = (drG by' s b : Int) := by
  have := bk_bd (by' := by') (s := s) (k := 1) h
  unfold drG; omega
def drA (by' : List Int) (s : Int × Int) (a b m : Nat) : List (Bool × List Int) := drT by' s m (drG by' s b) (drN by' s a)

end Go.Proofs.Ytakladjlnkojjaa.Ax
