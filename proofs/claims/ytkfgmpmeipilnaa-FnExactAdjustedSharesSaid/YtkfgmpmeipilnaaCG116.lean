/-
  The plain side of AdjustedShares: things are passed on in an order, the last one in parts. Plain Lean, no program in sight.
-/
import Derived.Test.YtkfgmpmeipilnaaCG83
import Derived.Test.YtkfgmpmeipilnaaCG95
import Derived.Test.YtkfgmpmeipilnaaCG30
namespace Go.Proofs.Ytkfgmpmeipilnaa.Ax
open Go Go.RowKit
set_option linter.unusedSimpArgs false

theorem insFrom_perm {c : Int → Int → Int} {ys : List Int} {x : Int} : ∀ {k : Nat}, (insFrom c ys x k).Perm (x :: ys)
  | 0 => .refl _
  | k + 1 => by
    unfold insFrom
    split
    · exact insFrom_perm
    · have := List.perm_middle (a := x) (l₁ := ys.take (k + 1)) (l₂ := ys.drop (k + 1))
      rwa [List.take_append_drop] at this
theorem isort_perm {c : Int → Int → Int} (xs : List Int) : (isort c xs).Perm xs := by
  unfold isort
  suffices h : ∀ (xs ys : List Int), (xs.foldl (ins c) ys).Perm (ys ++ xs) by simpa using h xs []
  intro xs
  induction xs with
  | nil => intro ys; simp
  | cons x xs ih =>
    intro ys
    simp only [List.foldl_cons]
    refine (ih _).trans ?_
    have h1 : (ins c ys x ++ xs).Perm ((x :: ys) ++ xs) := List.Perm.append_right _ insFrom_perm
    refine h1.trans ?_
    exact (List.perm_middle (a := x) (l₁ := ys) (l₂ := xs)).symm
theorem selTo_nodup {p : Nat → Bool} {k : Nat} : (selTo p k).Nodup := by
  unfold selTo
  rw [List.Nodup, List.pairwise_map]
  refine List.Pairwise.imp ?_ (List.Pairwise.filter _ (List.nodup_range (n := k)))
  intro a b h e
  exact h (by omega)

/-- The points of the heirs by the first shares of the first k things. -/
def cntS (r0 r1 : List Int) : Nat → Int × Int
  | 0 => (0, 0)
  | k + 1 => if at0 r1 k ≤ at0 r0 k then ((cntS r0 r1 k).1 + at0 r0 k, (cntS r0 r1 k).2) else ((cntS r0 r1 k).1, (cntS r0 r1 k).2 + at0 r1 k)
theorem cntS_bd {r0 r1 : List Int} (h0 : ∀ z ∈ r0, 0 ≤ z ∧ z ≤ 100) (h1 : ∀ z ∈ r1, 0 ≤ z ∧ z ≤ 100) : ∀ {k : Nat}, k ≤ r0.length → k ≤ r1.length → 0 ≤ (cntS r0 r1 k).1 ∧ (cntS r0 r1 k).1 ≤ 100 * k ∧ 0 ≤ (cntS r0 r1 k).2 ∧ (cntS r0 r1 k).2 ≤ 100 * k
  | 0, _, _ => by simp [cntS]
  | k + 1, ha, hb => by
    have ih := cntS_bd h0 h1 (k := k) (by omega) (by omega)
    have e0 := h0 _ (List.getElem_mem (show k < r0.length by omega))
    have e1 := h1 _ (List.getElem_mem (show k < r1.length by omega))
    rw [← at0_eq] at e0 e1
    unfold cntS
    split <;> simp only <;> omega

/-- What is passed on: points of the one who gives, of the other one, and the shares. -/
abbrev DSt := Int × Int × List (Int × Int)
def dealS (u v : List Int) (fr : Int) (s : DSt) (g : Int) : DSt := (s.1 - at0 u g.toNat, s.2.1 + at0 v g.toNat, s.2.2.set g.toNat (fr, 1))
def splF (fr d w : Int) : Int × Int := if fr = 0 then ((mkF d w).1.2 - (mkF d w).1.1, (mkF d w).1.2) else (mkF d w).1
def dealL (u v : List Int) (fr : Int) : List Int → DSt → List (Int × Int)
  | [], s => s.2.2
  | g :: l, s => if s.2.1 + at0 v g.toNat ≤ s.1 - at0 u g.toNat then dealL u v fr l (dealS u v fr s g) else s.2.2.set g.toNat (splF fr (s.1 - s.2.1) (at0 u g.toNat + at0 v g.toNat))
def dealT (u v : List Int) (fr : Int) (ord : List Int) (s0 : DSt) : Nat → DSt
  | 0 => s0
  | k + 1 => dealS u v fr (dealT u v fr ord s0 k) (ord.getD k 0)
structure OrdOk (u v : List Int) (fr : Int) (n : Nat) (ord : List Int) (sh : List (Int × Int)) : Prop where
  nd : ord.Nodup
  at' : ∀ g ∈ ord, ∃ i : Nat, g = i ∧ i < n ∧ sh.getD i (0, 0) = (1 - fr, 1) ∧ 0 < at0 u i + at0 v i
  bu : ∀ i, i < n → 0 ≤ at0 u i ∧ at0 u i ≤ 100
  bv : ∀ i, i < n → 0 ≤ at0 v i ∧ at0 v i ≤ 100
structure DealP (u v : List Int) (fr : Int) (n : Nat) (ord : List Int) (R : List (Int × Int)) (k : Nat) (s : DSt) : Prop where
  ln : s.2.2.length = n
  ge : s.2.1 ≤ s.1
  y0 : 0 ≤ s.2.1
  x1 : s.1 ≤ 600
  res : dealL u v fr (ord.drop k) s = R
  rest : ∀ j (h : j < ord.length), k ≤ j → s.2.2.getD ord[j].toNat (0, 0) = (1 - fr, 1)

section
variable {u v : List Int} {fr : Int} {n : Nat} {ord : List Int} {sh : List (Int × Int)} {R : List (Int × Int)} {k : Nat} {s : DSt}
theorem ord_at (h : OrdOk u v fr n ord sh) (hk : k < ord.length) : ∃ i : Nat, ord[k] = i ∧ i < n ∧ 0 < at0 u i + at0 v i ∧ (0 ≤ at0 u i ∧ at0 u i ≤ 100) ∧ (0 ≤ at0 v i ∧ at0 v i ≤ 100) := by
  obtain ⟨i, h1, h2, _, h4⟩ := h.at' _ (List.getElem_mem hk)
  exact ⟨i, h1, h2, h4, h.bu i h2, h.bv i h2⟩
theorem deal_zero (h : OrdOk u v fr n ord sh) {x y : Int} (hl : sh.length = n) (hge : y ≤ x) (hy : 0 ≤ y) (hx : x ≤ 600) : DealP u v fr n ord (dealL u v fr ord (x, y, sh)) 0 (x, y, sh) :=
  ⟨hl, hge, hy, hx, rfl, fun j hj _ => by
    obtain ⟨i, h1, _, h3, _⟩ := h.at' _ (List.getElem_mem hj)
    simp only [h1, Int.toNat_natCast]; exact h3⟩
theorem deal_step (h : OrdOk u v fr n ord sh) (hp : DealP u v fr n ord R k s) (hk : k < ord.length) {i : Nat} (hi : ord[k] = (i : Int)) (hc : s.2.1 + at0 v i ≤ s.1 - at0 u i) :
    DealP u v fr n ord R (k + 1) (s.1 - at0 u i, s.2.1 + at0 v i, s.2.2.set i (fr, 1)) := by
  obtain ⟨i', h1, h2, _, h4, h5⟩ := ord_at h hk
  obtain rfl : i = i' := by omega
  have := hp.y0; have := hp.x1
  refine ⟨by simp [hp.ln], hc, by simp only; omega, by simp only; omega, ?_, fun j hj hkj => ?_⟩
  · rw [← hp.res, List.drop_eq_getElem_cons hk, dealL, hi]
    simp only [Int.toNat_natCast, if_pos hc, dealS]
  · obtain ⟨j', e1, _, e3, _⟩ := h.at' _ (List.getElem_mem hj)
    have hne : i ≠ j' := fun e => by
      have := (List.pairwise_iff_getElem.1 h.nd) k j hk hj (by omega)
      exact this (by omega)
    have hr := hp.rest j hj (by omega)
    rw [e1] at hr ⊢
    simp only [Int.toNat_natCast, List.getD_eq_getElem?_getD, List.getElem?_set_ne hne] at hr ⊢
    exact hr
theorem deal_stop (_h : OrdOk u v fr n ord sh) (hp : DealP u v fr n ord R k s) (hk : k < ord.length) {i : Nat} (hi : ord[k] = (i : Int)) (hc : ¬ s.2.1 + at0 v i ≤ s.1 - at0 u i) : R = s.2.2.set i (splF fr (s.1 - s.2.1) (at0 u i + at0 v i)) := by
  rw [← hp.res, List.drop_eq_getElem_cons hk, dealL, hi]
  simp only [Int.toNat_natCast, if_neg hc]
theorem mkF_zero {w : Int} (hw : 0 < w) : mkF 0 w = ((0, 1), true) := by
  rw [mkF_qd hw]
  have : qd 0 w = (0, 1) := by unfold qd; rw [Rat.zero_divInt]; rfl
  rw [this]; rfl
theorem splF_zero {w : Int} (hw : 0 < w) (hfr : fr = 0 ∨ fr = 1) : splF fr 0 w = (1 - fr, 1) := by
  unfold splF; rw [mkF_zero hw]
  rcases hfr with rfl | rfl <;> rfl
theorem deal_same (h : OrdOk u v fr n ord sh) (hfr : fr = 0 ∨ fr = 1) (hp : DealP u v fr n ord R k s) (hk : k < ord.length) (he : s.1 = s.2.1) : R = s.2.2 := by
  obtain ⟨i, h1, h2, h3, h4, h5⟩ := ord_at h hk
  rw [deal_stop h hp hk h1 (by omega), show s.1 - s.2.1 = 0 by omega, splF_zero h3 hfr]
  have hr := hp.rest k hk (Nat.le_refl _)
  rw [h1] at hr
  have hil : i < s.2.2.length := by rw [hp.ln]; exact h2
  simp only [Int.toNat_natCast, List.getD_eq_getElem?_getD, List.getElem?_eq_getElem hil, Option.getD_some] at hr
  rw [← hr]
  exact List.set_getElem_self hil
theorem deal_end (hp : DealP u v fr n ord R k s) (hk : k = ord.length) : R = s.2.2 := by
  subst hk
  rw [← hp.res, List.drop_length, dealL]
/-- The part that is passed on. -/
theorem spl_part {d w : Int} (h0 : 0 ≤ d) (h1 : d < w) (h2 : w ≤ 200) : ∃ a b, mkF d w = ((a, b), true) ∧ partB (a, b) = true := by
  have hw : 0 < w := by omega
  have hok := qd_ok (a := d) hw (by omega) (by omega)
  rw [mkF_qd hw, if_pos hok]
  refine ⟨(qd d w).1, (qd d w).2, rfl, ?_⟩
  obtain ⟨g, g0, e1, e2⟩ := qd_parts (a := d) hw
  have hden := qd_den (a := d) hw
  simp only [partB, inR, Bool.and_eq_true, decide_eq_true_eq]
  refine ⟨hok, ?_, ?_⟩
  · rcases Int.lt_or_le (qd d w).1 0 with h | h
    · have := Int.mul_pos (show 0 < -(qd d w).1 by omega) g0
      rw [Int.neg_mul, e1] at this; omega
    · exact h
  · rcases Int.lt_or_le (qd d w).2 (qd d w).1 with h | h
    · have := Int.mul_lt_mul_of_pos_right h g0
      omega
    · exact h
end

/-- Who gives. -/
def giveR (c : Int × Int) : Int := if c.1 < c.2 then 1 else 0
def adjL (xss : List (Bool × List Int)) : List (Int × Int) := match xss with
  | [r0, r1] => if pointsB xss = true then
      (if giveR (cntS r0.2 r1.2 r0.2.length) = 0 then dealL r0.2 r1.2 0 (tOrd xss 0) ((cntS r0.2 r1.2 r0.2.length).1, (cntS r0.2 r1.2 r0.2.length).2, fsA r0.2 r1.2 r0.2.length)
       else dealL r1.2 r0.2 1 (tOrd xss 1) ((cntS r0.2 r1.2 r0.2.length).2, (cntS r0.2 r1.2 r0.2.length).1, fsA r0.2 r1.2 r0.2.length)) else []
  | _ => []
theorem adj_no {xss : List (Bool × List Int)} (h : pointsB xss = false) : adjL xss = [] := by
  unfold adjL; split <;> simp [h]
theorem ordOk {r0 r1 u v : Bool × List Int} {fr : Int} (h1 : pointsB [r0, r1] = true) (hcase : (fr = 0 ∧ u = r0 ∧ v = r1) ∨ (fr = 1 ∧ u = r1 ∧ v = r0)) : OrdOk u.2 v.2 fr r0.2.length (tOrd [r0, r1] fr) (fsA r0.2 r1.2 r0.2.length) := by
  obtain ⟨h2, hr⟩ := points_facts h1
  have hr1 := rect_row hr (i := 1) (by simp)
  have hr0 := rect_row hr (i := 0) (by simp)
  simp only [wid, List.headD_cons] at hr1 hr0
  simp only [List.getElem_cons_succ, List.getElem_cons_zero] at hr1 hr0
  have b0 : ∀ i, i < r0.2.length → 0 ≤ at0 r0.2 i ∧ at0 r0.2 i ≤ 100 := fun i hi => by rw [at0_eq hi]; exact hr0.2 _ (List.getElem_mem _)
  have b1 : ∀ i, i < r0.2.length → 0 ≤ at0 r1.2 i ∧ at0 r1.2 i ≤ 100 := fun i hi => by rw [at0_eq (show i < r1.2.length by omega)]; exact hr1.2 _ (List.getElem_mem _)
  have hfr : 0 ≤ fr ∧ fr ≤ 1 := by rcases hcase with ⟨rfl, _⟩ | ⟨rfl, _⟩ <;> omega
  have ho : ∃ c, tOrd [r0, r1] fr = isort c (selTo (selB r0.2 r1.2 fr) r0.2.length) := by
    simp only [tOrd, h1, hfr.1, hfr.2, and_self, if_true]; exact ⟨_, rfl⟩
  obtain ⟨c, ho⟩ := ho
  rw [ho]
  refine ⟨(isort_perm _).nodup_iff.2 selTo_nodup, fun g hg => ?_, ?_, ?_⟩
  · obtain ⟨i, e, hi, hs⟩ := selTo_mem (isort_mem.1 hg)
    refine ⟨i, e, hi, ?_, ?_⟩
    · simp only [selB, Bool.and_eq_true, decide_eq_true_eq] at hs
      have : i < (fsA r0.2 r1.2 r0.2.length).length := by rw [fsA_len]; exact hi
      rw [List.getD_eq_getElem?_getD, List.getElem?_eq_getElem this, Option.getD_some]
      simp only [fsA, List.getElem_map, List.getElem_range, fshare, hs.1]
    · simp only [selB, Bool.and_eq_true, decide_eq_true_eq] at hs
      rcases hcase with ⟨_, rfl, rfl⟩ | ⟨_, rfl, rfl⟩ <;> omega
  · rcases hcase with ⟨_, rfl, rfl⟩ | ⟨_, rfl, rfl⟩
    · exact b0
    · exact b1
  · rcases hcase with ⟨_, rfl, rfl⟩ | ⟨_, rfl, rfl⟩
    · exact b1
    · exact b0

end Go.Proofs.Ytkfgmpmeipilnaa.Ax
