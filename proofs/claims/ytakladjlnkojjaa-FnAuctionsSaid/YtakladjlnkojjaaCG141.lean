/-
  Auctions: payments, gains and prices of a best award (up to three bidders and things). No condition.
-/
import Derived.Test.YtakladjlnkojjaaCG140
import Derived.Test.YtakladjlnkojjaaCG38
namespace Go.Proofs.Ytakladjlnkojjaa.Ax
open Go Go.RowKit
set_option linter.unusedSimpArgs false

theorem gd_set {l : List Int} {i j : Nat} {x : Int} (hi : i < l.length) : (l.set i x).getD j 0 = if j = i then x else l.getD j 0 := by
  simp only [List.getD_eq_getElem?_getD, List.getElem?_set]
  by_cases h : i = j
  · subst h; simp [hi]
  · rw [if_neg h, if_neg (fun e => h e.symm)]
theorem mem_getD {l : List Int} {i : Nat} (hi : i < l.length) : l.getD i 0 ∈ l := by rw [getD_at hi]; exact List.getElem_mem _
theorem awd_iff {l : List Int} : isAwd l = true ↔ ∀ i j, i < j → j < l.length → 0 ≤ l.getD j 0 → l.getD i 0 ≠ l.getD j 0 := by
  unfold isAwd allR
  rw [List.all_eq_true]
  constructor
  · intro h i j hij hj h0 he
    have := h j (by simpa using hj)
    simp only [awAt, h0, decide_true, Bool.true_and, Bool.not_eq_true', decide_eq_false_iff_not] at this
    apply this
    rw [pos_iff, ← he, getD_at (by omega)]
    exact List.mem_take_iff_getElem.2 ⟨i, by omega, rfl⟩
  · intro h j hj
    have hj' : j < l.length := by simpa using hj
    simp only [awAt, Bool.not_eq_true', Bool.and_eq_false_iff, decide_eq_false_iff_not]
    by_cases h0 : 0 ≤ l.getD j 0
    · right
      rw [pos_iff]
      intro hm
      obtain ⟨i, hi, he⟩ := List.mem_take_iff_getElem.1 hm
      refine h i j (by omega) hj' h0 ?_
      rw [getD_at (by omega)]; exact he
    · exact .inl h0
theorem awd_ne {l : List Int} (h : isAwd l = true) {i j : Nat} (hi : i < l.length) (hj : j < l.length) (hij : i ≠ j) (h0 : 0 ≤ l.getD i 0) : l.getD i 0 ≠ l.getD j 0 := by
  rcases Nat.lt_or_ge i j with h1 | h1
  · intro e
    exact awd_iff.1 h i j h1 hj (by omega) e
  · exact fun e => awd_iff.1 h j i (by omega) hi h0 e.symm

theorem Awd.mk' {n w : Nat} {l : List Int} (h1 : l.length = n) (h2 : ∀ i, i < n → -1 ≤ l.getD i 0 ∧ l.getD i 0 ≤ (w : Int) - 1) (h3 : isAwd l = true) : Awd n w l := by
  refine ⟨h1, fun x hx => ?_, h3⟩
  obtain ⟨i, hi, rfl⟩ := List.getElem_of_mem hx
  rw [← getD_at hi]; exact h2 i (by omega)
theorem Awd.drop {n w : Nat} {l : List Int} (h : Awd n w l) {i : Nat} (hi : i < n) : Awd n w (l.set i (-1)) := by
  have hl := h.len
  refine .mk' (by simp [hl]) (fun j hj => ?_) ?_
  · rw [gd_set (by omega)]
    split
    · have := h.at hi; omega
    · exact h.at hj
  · rw [awd_iff]
    intro a b hab hb h0
    rw [List.length_set] at hb
    rw [gd_set (by omega)] at h0 ⊢
    rw [gd_set (by omega)]
    split at h0
    · omega
    · rename_i hbi
      rw [if_neg hbi]
      split
      · omega
      · exact awd_iff.1 h.aw a b hab hb h0
theorem Awd.mix {n w : Nat} {A B : List Int} (hA : Awd n w A) (hB : Awd n w B) {s : Nat} (h : isAwd (mixL s A B) = true) : Awd n w (mixL s A B) := by
  have h1 := hA.len
  have h2 := hB.len
  refine .mk' (by rw [mixL_len (by omega), h1]) (fun j hj => ?_) h
  rw [mixL_at (by omega) (by omega)]
  split
  · exact hB.at hj
  · exact hA.at hj
theorem Awd.put {n w : Nat} {A B : List Int} (hA : Awd n w A) (hB : Awd n w B) {s i x : Nat} (hi : i < n) (hx : x < w) (h : isAwd ((mixL s B A).set i (x : Int)) = true) : Awd n w ((mixL s B A).set i (x : Int)) := by
  have h1 := hA.len
  have h2 := hB.len
  have h3 : (mixL s B A).length = n := by rw [mixL_len (by omega), h2]
  refine .mk' (by simp [h3]) (fun j hj => ?_) h
  rw [gd_set (by omega)]
  split
  · omega
  · rw [mixL_at (by omega) (by omega)]
    split
    · exact hA.at hj
    · exact hB.at hj

/-- The worth of an award. -/
abbrev Wx (xss : List (Bool × List Int)) (l : List Int) : Int := Wl (ent xss) 0 l
section
variable {xss : List (Bool × List Int)} (h : rectB xss 4 4 1000 = true)
include h
theorem ent_bdI {i : Nat} {k : Int} (hi : i < xss.length) (h0 : 0 ≤ k) (hk : k < (wid xss : Int)) : 0 ≤ ent xss i k ∧ ent xss i k ≤ 1000 := by
  have := ent_bd h hi (k := k.toNat) (by omega)
  rwa [show ((k.toNat : Nat) : Int) = k by omega] at this
theorem wx_bd {l : List Int} (hl : Awd xss.length (wid xss) l) : 0 ≤ Wx xss l ∧ Wx xss l ≤ 4000 := by
  have h4 := (rect_len h).1
  have h1 := hl.len
  have := Wl_bd (V := ent xss) (n := xss.length) (w := wid xss) (c := 1000) (fun i k hi h0 hk => ent_bdI h hi h0 hk) (by omega) (k := 0) (l := l) (by omega) fun x hx => (hl.bd x hx).2
  unfold Wx; omega
theorem wAw_eq {l : List Int} (hl : Awd xss.length (wid xss) l) : wAw xss l = Wx xss l := by
  have := awTo_Wl h hl.len (fun x hx => (hl.bd x hx).2) (k := l.length) (Nat.le_refl _)
  rw [List.take_length] at this
  exact this
theorem best_awd {wo : Int} (hw : -1 ≤ wo) : Awd xss.length (wid xss) (bestA xss wo) := by
  obtain ⟨h1, h2, h3⟩ := bestA_mem h hw
  simp only [okP, Bool.and_eq_true] at h3
  exact ⟨h1, h2, h3.1⟩
theorem best_out {i : Nat} (hi : i < xss.length) : (bestA xss (i : Int)).getD i 0 = -1 := by
  obtain ⟨h1, h2, h3⟩ := bestA_mem h (wo := (i : Int)) (by omega)
  have ha := (best_awd h (wo := (i : Int)) (by omega)).at hi
  simp only [okP, Bool.and_eq_true, Bool.not_eq_true', Bool.and_eq_false_iff, decide_eq_false_iff_not] at h3
  have := h3.2
  rw [show ((i : Int)).toNat = i by omega] at this
  omega
theorem best_max {wo : Int} (hw : -1 ≤ wo) {l : List Int} (hl : Awd xss.length (wid xss) l) (ho : okP wo l = true) : Wx xss l ≤ Wx xss (bestA xss wo) := by
  rw [← wAw_eq h hl, ← wAw_eq h (best_awd h hw)]
  exact bestO_max (bestA_eq h hw) hl.mem ho
end
theorem okP_all {l : List Int} (h : isAwd l = true) : okP (-1) l = true := by simp [okP, h]
theorem okP_out {l : List Int} (h : isAwd l = true) {i : Nat} (hi : l.getD i 0 = -1) : okP (i : Int) l = true := by
  simp only [okP, h, Bool.true_and, Bool.not_eq_true', Bool.and_eq_false_iff, decide_eq_false_iff_not]
  right; rw [show ((i : Int)).toNat = i by omega, hi]; omega

/-- What the best award is worth, with and without bidder i; what bidder i's thing is worth to him. -/
noncomputable def W0 (xss : List (Bool × List Int)) : Int := Wx xss (bestA xss (-1))
noncomputable def Wi (xss : List (Bool × List Int)) (i : Nat) : Int := Wx xss (bestA xss (i : Int))
noncomputable def Ci (xss : List (Bool × List Int)) (l : List Int) (i : Nat) : Int := if 0 ≤ l.getD i 0 then ent xss i (l.getD i 0) else 0

section
variable {xss : List (Bool × List Int)} (h : rectB xss 4 4 1000 = true)
include h
theorem max0 {l : List Int} (hl : Awd xss.length (wid xss) l) : Wx xss l ≤ W0 xss := best_max h (by omega) hl (okP_all hl.aw)
theorem maxi {l : List Int} (hl : Awd xss.length (wid xss) l) {i : Nat} (hi : l.getD i 0 = -1) : Wx xss l ≤ Wi xss i := best_max h (by omega) hl (okP_out hl.aw hi)
theorem wi_le {i : Nat} : Wi xss i ≤ W0 xss := max0 h (best_awd h (by omega))
theorem ci_bd {l : List Int} (hl : Awd xss.length (wid xss) l) {i : Nat} (hi : i < xss.length) : 0 ≤ Ci xss l i ∧ Ci xss l i ≤ 1000 := by
  have := hl.at hi
  unfold Ci
  split
  · exact ent_bdI h hi (by omega) (by omega)
  · omega
omit h in
theorem wx_drop {l : List Int} {i : Nat} (hi : i < l.length) : Wx xss (l.set i (-1)) = Wx xss l - Ci xss l i := by
  unfold Wx Ci
  rw [Wl_set hi]
  simp
theorem pay_eq {i : Nat} (hi : i < xss.length) : payI xss i = Wi xss i - (W0 xss - Ci xss (bestA xss (-1)) i) := by
  have hA := best_awd h (wo := -1) (by omega)
  have hB := best_awd h (wo := (i : Int)) (by omega)
  have h1 := wx_bd h hA
  have h2 := wx_bd h hB
  have h3 := ci_bd h hA hi
  have e1 : awTo xss (bestA xss (-1)) (bestA xss (-1)).length = W0 xss := wAw_eq h hA
  have e2 : wwB xss i = Wi xss i := by
    unfold wwB
    rw [if_pos ⟨h, by omega, by omega⟩]; exact wAw_eq h hB
  have b0 : 0 ≤ W0 xss ∧ W0 xss ≤ 4000 := h1
  have bi : 0 ≤ Wi xss i ∧ Wi xss i ≤ 4000 := h2
  unfold payI
  rw [e1, e2]
  unfold Ci at h3 ⊢
  split
  · rename_i hy
    rw [if_pos hy] at h3
    rw [wrapI (x := W0 xss - _) (by omega) (by omega), wrapI (by omega) (by omega)]
  · rw [wrapI (by omega) (by omega)]; omega
theorem pay_bd {i : Nat} (hi : i < xss.length) : 0 ≤ payI xss i ∧ payI xss i ≤ Ci xss (bestA xss (-1)) i ∧ payI xss i ≤ 1000 := by
  have hA := best_awd h (wo := -1) (by omega)
  have h1 := maxi h (hA.drop hi) (i := i) (by rw [gd_set (by rw [hA.len]; exact hi)]; simp)
  rw [wx_drop (by rw [hA.len]; exact hi)] at h1
  have h2 := wi_le h (i := i)
  have h3 := pay_eq h hi
  have h4 := ci_bd h hA hi
  have h5 : Wx xss (bestA xss (-1)) = W0 xss := rfl
  omega
theorem pay_out {i : Nat} (hi : i < xss.length) (hn : (bestA xss (-1)).getD i 0 < 0) : payI xss i = 0 := by
  have := pay_bd h hi
  have e : Ci xss (bestA xss (-1)) i = 0 := by unfold Ci; rw [if_neg (by omega)]
  omega

theorem core_free (hn : xss.length ≤ 3) (hw : wid xss ≤ 3) {i x : Nat} (hi : i < xss.length) (hx : x < wid xss) (hf : ∀ j, j < xss.length → (bestA xss (-1)).getD j 0 ≠ (x : Int)) : ent xss i (x : Int) ≤ W0 xss - Wi xss i := by
  have hA := best_awd h (wo := -1) (by omega)
  have hB := best_awd h (wo := (i : Int)) (by omega)
  have hla := hA.len
  have hlb := hB.len
  have hbi := best_out h hi
  have hp : pos (bestA xss (-1)) (x : Int) < 0 := by
    rcases Int.lt_or_le (pos (bestA xss (-1)) (x : Int)) 0 with e | e
    · exact e
    · obtain ⟨j, hj, he⟩ := List.getElem_of_mem (pos_iff.1 e)
      exact (hf j (by omega) (by rw [getD_at hj]; exact he)).elim
  obtain ⟨s, hs, h1, h2⟩ := exch ⟨rect_pos h, hn⟩ ⟨(rect_len h).2.2, hw⟩ hA hB hi hbi hx hp
  have m1 := max0 h (hA.mix hB h1)
  have m2 := max0 h (hA.put hB hi hx h2)
  have m3 := Wl_mix (V := ent xss) (s := s) (k := 0) (A := bestA xss (-1)) (B := bestA xss (i : Int)) (by omega)
  have e0 : (mixL s (bestA xss (i : Int)) (bestA xss (-1))).getD i 0 = -1 := by rw [mixL_at (by omega) (by omega), if_neg (by omega), hbi]
  unfold Wx at m2
  rw [Wl_set (by rw [mixL_len (by omega)]; omega), e0, if_neg (by omega), if_pos (show (0 : Int) ≤ (x : Int) by omega), Nat.zero_add] at m2
  have e1 : Wl (ent xss) 0 (bestA xss (-1)) = W0 xss := rfl
  have e2 : Wl (ent xss) 0 (bestA xss (i : Int)) = Wi xss i := rfl
  rw [e1, e2] at m3
  have m1' : Wl (ent xss) 0 (mixL s (bestA xss (-1)) (bestA xss (i : Int))) ≤ W0 xss := m1
  omega
theorem core_held (hn : xss.length ≤ 3) (hw : wid xss ≤ 3) {i j x : Nat} (hi : i < xss.length) (hj : j < xss.length) (hij : j ≠ i) (hx : x < wid xss) (hf : (bestA xss (-1)).getD j 0 = (x : Int)) : ent xss i (x : Int) - payI xss j ≤ W0 xss - Wi xss i := by
  have hA0 := best_awd h (wo := -1) (by omega)
  have hB := best_awd h (wo := (i : Int)) (by omega)
  have hla0 := hA0.len
  have hlb := hB.len
  have hbi := best_out h hi
  have hA := hA0.drop hj
  have hla := hA.len
  have hwa := wx_drop (xss := xss) (l := bestA xss (-1)) (i := j) (by omega)
  have hp : pos ((bestA xss (-1)).set j (-1)) (x : Int) < 0 := by
    rcases Int.lt_or_le (pos ((bestA xss (-1)).set j (-1)) (x : Int)) 0 with e | e
    · exact e
    · obtain ⟨m, hm, he⟩ := List.getElem_of_mem (pos_iff.1 e)
      rw [← getD_at hm, gd_set (by omega)] at he
      split at he
      · omega
      · rename_i hmj
        exact (awd_ne hA0.aw (i := j) (j := m) (by omega) (by omega) (fun e => hmj e.symm) (by omega) (by omega)).elim
  have haj : ((bestA xss (-1)).set j (-1)).getD j 0 = -1 := by rw [gd_set (by omega)]; simp
  have hpay := pay_eq h hj
  have e1 : Wx xss (bestA xss (-1)) = W0 xss := rfl
  generalize (bestA xss (-1)).set j (-1) = A at *
  obtain ⟨s, hs, h1, h2⟩ := exch ⟨rect_pos h, hn⟩ ⟨(rect_len h).2.2, hw⟩ hA hB hi hbi hx hp
  have c1 := hA.mix hB h1
  have c2 := hA.put hB hi hx h2
  have m1 := max0 h c1
  have m2 := max0 h c2
  have m3 := Wl_mix (V := ent xss) (s := s) (k := 0) (A := A) (B := bestA xss (i : Int)) (by omega)
  have e0 : (mixL s (bestA xss (i : Int)) A).getD i 0 = -1 := by rw [mixL_at (by omega) (by omega), if_neg (by omega), hbi]
  have m4 : Wx xss ((mixL s (bestA xss (i : Int)) A).set i (x : Int)) = Wx xss (mixL s (bestA xss (i : Int)) A) + ent xss i (x : Int) := by
    unfold Wx
    rw [Wl_set (by rw [mixL_len (by omega)]; omega), e0, if_neg (by omega), if_pos (show (0 : Int) ≤ (x : Int) by omega), Nat.zero_add]; omega
  have e2 : Wl (ent xss) 0 (bestA xss (i : Int)) = Wi xss i := rfl
  have m3' : Wx xss (mixL s A (bestA xss (i : Int))) + Wx xss (mixL s (bestA xss (i : Int)) A) = Wx xss A + Wi xss i := m3
  have key : Wx xss (mixL s A (bestA xss (i : Int))) + Wx xss ((mixL s (bestA xss (i : Int)) A).set i (x : Int)) ≤ W0 xss + Wi xss j := by
    by_cases hb : s / 2 ^ j % 2 = 1
    · have := maxi h c2 (i := j) (by rw [gd_set (by rw [mixL_len (by omega)]; omega), if_neg hij, mixL_at (by omega) (by omega), if_pos hb, haj])
      omega
    · have := maxi h c1 (i := j) (by rw [mixL_at (by omega) (by omega), if_neg hb, haj])
      omega
  omega
end

end Go.Proofs.Ytakladjlnkojjaa.Ax
