/-
  Auctions: other bids gain nothing more; the prices of things. No condition.
-/
import Derived.Test.YtakladjlnkojjaaCG141
namespace Go.Proofs.Ytakladjlnkojjaa.Ax
open Go Go.RowKit
set_option linter.unusedSimpArgs false

theorem ent_told {xss : List (Bool × List Int)} {i : Nat} {nb : Bool} {bids : List Int} (hi : i < xss.length) {k : Nat} {y : Int} : ent (told xss (i : Int) nb bids) k y = if k = i then bids.getD y.toNat 0 else ent xss k y := by
  unfold ent told
  simp only [List.getD_eq_getElem?_getD, List.getElem?_set, Int.toNat_natCast]
  by_cases h : i = k
  · subst h; simp [hi]
  · rw [if_neg h, if_neg (fun e => h e.symm)]

section
variable {xss : List (Bool × List Int)} (h : rectB xss 4 4 1000 = true) {i : Nat} (hi : i < xss.length) {nb : Bool} {bids : List Int} (hT : rectB (told xss (i : Int) nb bids) 4 4 1000 = true) (hb : bids.length = wid xss)
include h hi hT hb
omit hi hT in
theorem told_awd {l : List Int} : Awd (told xss (i : Int) nb bids).length (wid (told xss (i : Int) nb bids)) l ↔ Awd xss.length (wid xss) l := by
  rw [told_len, told_wid (rect_pos h) hb]
omit h hT hb in
theorem told_wx {l : List Int} (hl : l.getD i 0 = -1) : Wx (told xss (i : Int) nb bids) l = Wx xss l := by
  unfold Wx
  refine Wl_congr fun j _ hy => ?_
  rw [Nat.zero_add, ent_told hi]
  split
  · rename_i e; subst e; omega
  · rfl
theorem told_wi : Wi (told xss (i : Int) nb bids) i = Wi xss i := by
  have hiT : i < (told xss (i : Int) nb bids).length := by rw [told_len]; exact hi
  have h1 := best_awd h (wo := (i : Int)) (by omega)
  have h2 := best_awd hT (wo := (i : Int)) (by omega)
  have o1 := best_out h hi
  have o2 := best_out hT hiT
  have m1 := maxi h ((told_awd h hb).1 h2) o2
  have m2 := maxi hT ((told_awd h hb).2 h1) o1
  rw [told_wx hi o1] at m2
  rw [← told_wx (nb := nb) (bids := bids) hi o2] at m1
  have e1 : Wx xss (bestA xss (i : Int)) = Wi xss i := rfl
  have e2 : Wx (told xss (i : Int) nb bids) (bestA (told xss (i : Int) nb bids) (i : Int)) = Wi (told xss (i : Int) nb bids) i := rfl
  omega
/-- What bidder i gains by these bids. -/
theorem gainV_eq : gainV xss (i : Int) (told xss (i : Int) nb bids) = Wx xss (bestA (told xss (i : Int) nb bids) (-1)) - Wi xss i := by
  have hiT : i < (told xss (i : Int) nb bids).length := by rw [told_len]; exact hi
  have hA' := best_awd hT (wo := -1) (by omega)
  have hA := (told_awd h hb).1 hA'
  have e0 : bA (told xss (i : Int) nb bids) = bestA (told xss (i : Int) nb bids) (-1) := bA_yes hT
  have e1 : (payA (told xss (i : Int) nb bids)).getD i 0 = payI (told xss (i : Int) nb bids) i := by
    rw [payA_yes hT]
    unfold payL
    rw [List.getD_eq_getElem?_getD, List.getElem?_map, List.getElem?_range hiT]; rfl
  have hp := pay_bd hT hiT
  have hpe := pay_eq hT hiT
  have hwi := told_wi h hi hT hb
  have hla := hA.len
  have d1 := wx_drop (xss := told xss (i : Int) nb bids) (l := bestA (told xss (i : Int) nb bids) (-1)) (i := i) (by omega)
  have d2 := wx_drop (xss := xss) (l := bestA (told xss (i : Int) nb bids) (-1)) (i := i) (by omega)
  rw [told_wx hi (by rw [gd_set (by omega)]; simp), d2] at d1
  have e2 : Wx (told xss (i : Int) nb bids) (bestA (told xss (i : Int) nb bids) (-1)) = W0 (told xss (i : Int) nb bids) := rfl
  have hc := ci_bd h hA hi
  have hat := hA.at hi
  unfold gainV
  rw [Int.toNat_natCast, e0, e1]
  rw [show IntKind.i64.wrap (0 - payI (told xss (i : Int) nb bids) i) = 0 - payI (told xss (i : Int) nb bids) i from wrapI (by omega) (by omega)]
  generalize bestA (told xss (i : Int) nb bids) (-1) = A at *
  by_cases hy : 0 ≤ A.getD i 0
  · have ec : Ci xss A i = ent xss i (A.getD i 0) := if_pos hy
    rw [if_pos hy, wrapI (by omega) (by omega)]; omega
  · have ec : Ci xss A i = 0 := if_neg hy
    have ec' : Ci (told xss (i : Int) nb bids) A i = 0 := if_neg hy
    rw [if_neg hy]; omega
theorem gain_le : gainV xss (i : Int) (told xss (i : Int) nb bids) ≤ W0 xss - Wi xss i := by
  rw [gainV_eq h hi hT hb]
  have := max0 h ((told_awd h hb).1 (best_awd hT (wo := -1) (by omega)))
  omega
theorem gain_own (he : bids = (xss.getD i (true, [])).2) : gainV xss (i : Int) (told xss (i : Int) nb bids) = W0 xss - Wi xss i := by
  have hent : ∀ k y, ent (told xss (i : Int) nb bids) k y = ent xss k y := fun k y => by
    rw [ent_told hi]
    split
    · rename_i e; subst e; rw [he]; rfl
    · rfl
  have hw : ∀ l, Wx (told xss (i : Int) nb bids) l = Wx xss l := fun l => Wl_congr fun j _ _ => hent _ _
  rw [gainV_eq h hi hT hb]
  have m1 := max0 h ((told_awd h hb).1 (best_awd hT (wo := -1) (by omega)))
  have m2 := max0 hT ((told_awd h hb).2 (best_awd h (wo := -1) (by omega)))
  rw [hw] at m2
  have e1 : Wx xss (bestA xss (-1)) = W0 xss := rfl
  have e2 : W0 (told xss (i : Int) nb bids) = Wx xss (bestA (told xss (i : Int) nb bids) (-1)) := hw _
  omega
end

/-! The prices of things. -/
theorem prTo_none {w : Nat} {aw pay : List Int} {x : Nat} : ∀ {k : Nat}, (∀ j, j < k → aw.getD j 0 ≠ (x : Int)) → (prTo w aw pay k).getD x 0 = 0
  | 0, _ => by
    simp only [prTo, List.getD_eq_getElem?_getD, List.getElem?_replicate]
    split <;> rfl
  | k + 1, hj => by
    have ih := prTo_none (w := w) (aw := aw) (pay := pay) (x := x) (k := k) fun j hj' => hj j (by omega)
    simp only [prTo]
    split
    · rename_i h0
      have := hj k (by omega)
      by_cases hs : (aw.getD k 0).toNat < (prTo w aw pay k).length
      · rw [gd_set hs, if_neg (by omega)]; exact ih
      · rw [List.set_eq_of_length_le (by omega)]; exact ih
    · exact ih
theorem prTo_some {w : Nat} {aw pay : List Int} {x j : Nat} (hx : x < w) (he : aw.getD j 0 = (x : Int)) : ∀ {k : Nat}, j < k → (∀ m, m < k → m ≠ j → aw.getD m 0 ≠ (x : Int)) → (prTo w aw pay k).getD x 0 = pay.getD j 0
  | 0, hj, _ => by omega
  | k + 1, hj, hm => by
    simp only [prTo]
    by_cases hk : j = k
    · subst hk
      rw [if_pos (by omega), gd_set (by rw [prTo_len]; omega), if_pos (by omega)]
    · have ih := prTo_some (pay := pay) hx he (k := k) (by omega) fun m h1 h2 => hm m (by omega) h2
      have := hm k (by omega) (fun e => hk e.symm)
      split
      · by_cases hs : (aw.getD k 0).toNat < (prTo w aw pay k).length
        · rw [gd_set hs, if_neg (by omega)]; exact ih
        · rw [List.set_eq_of_length_le (by omega)]; exact ih
      · exact ih

section
variable {xss : List (Bool × List Int)} (h : rectB xss 4 4 1000 = true)
include h
theorem pay_at {j : Nat} (hj : j < xss.length) : (payA xss).getD j 0 = payI xss j := by
  rw [payA_yes h]
  unfold payL
  rw [List.getD_eq_getElem?_getD, List.getElem?_map, List.getElem?_range hj]; rfl
/-- The price of a thing is its holder's payment, or nothing. -/
theorem price_at {x : Nat} (hx : x < wid xss) : ((∀ j, j < xss.length → (bestA xss (-1)).getD j 0 ≠ (x : Int)) ∧ (prA xss).getD x 0 = 0) ∨ ∃ j, j < xss.length ∧ (bestA xss (-1)).getD j 0 = (x : Int) ∧ (prA xss).getD x 0 = payI xss j := by
  have hA := best_awd h (wo := -1) (by omega)
  have hla := hA.len
  have e0 : prA xss = prTo (wid xss) (bestA xss (-1)) (payA xss) xss.length := by unfold prA; rw [if_pos h, bA_yes h]
  rw [e0]
  by_cases hf : ∀ j, j < xss.length → (bestA xss (-1)).getD j 0 ≠ (x : Int)
  · exact .inl ⟨hf, prTo_none hf⟩
  · right
    have : ∃ j, j < xss.length ∧ (bestA xss (-1)).getD j 0 = (x : Int) := by
      apply Classical.byContradiction
      intro hc
      exact hf fun j hj e => hc ⟨j, hj, e⟩
    obtain ⟨j, hj, he⟩ := this
    refine ⟨j, hj, he, ?_⟩
    rw [prTo_some hx he hj fun m hm hmj e => awd_ne hA.aw (i := j) (j := m) (by omega) (by omega) (fun e => hmj e.symm) (by omega) (by omega), pay_at h hj]
theorem price_bd {x : Nat} (hx : x < wid xss) : 0 ≤ (prA xss).getD x 0 ∧ (prA xss).getD x 0 ≤ 1000 := by
  rcases price_at h hx with ⟨_, e⟩ | ⟨j, hj, _, e⟩
  · rw [e]; omega
  · have := pay_bd h hj; rw [e]; omega
/-- Bidder i gains at these prices what the others would not have without him. -/
theorem price_own {i : Nat} (hi : i < xss.length) : (if 0 ≤ (bestA xss (-1)).getD i 0 then ent xss i ((bestA xss (-1)).getD i 0) - (prA xss).getD ((bestA xss (-1)).getD i 0).toNat 0 else 0) = W0 xss - Wi xss i := by
  have hA := best_awd h (wo := -1) (by omega)
  have hla := hA.len
  have hat := hA.at hi
  have hpe := pay_eq h hi
  split
  · rename_i hy
    have ec : Ci xss (bestA xss (-1)) i = ent xss i ((bestA xss (-1)).getD i 0) := if_pos hy
    rcases price_at h (x := ((bestA xss (-1)).getD i 0).toNat) (by omega) with ⟨hf, _⟩ | ⟨j, hj, he, e⟩
    · exact (hf i hi (by omega)).elim
    · have hji : j = i := by
        rcases Nat.decEq j i with hne | heq
        · exact (awd_ne hA.aw (i := i) (j := j) (by omega) (by omega) (fun e => hne e.symm) (by omega) (by omega)).elim
        · exact heq
      subst hji
      rw [e]; omega
  · rename_i hy
    have ec : Ci xss (bestA xss (-1)) i = 0 := if_neg hy
    have := pay_out h hi (by omega)
    omega
theorem price_core (hn : xss.length ≤ 3) (hw : wid xss ≤ 3) {i x : Nat} (hi : i < xss.length) (hx : x < wid xss) : ent xss i (x : Int) - (prA xss).getD x 0 ≤ W0 xss - Wi xss i := by
  rcases price_at h hx with ⟨hf, e⟩ | ⟨j, hj, he, e⟩
  · have := core_free h hn hw hi hx hf
    rw [e]; omega
  · rcases Nat.decEq j i with hne | heq
    · rw [e]; exact core_held h hn hw hi hj hne hx he
    · subst heq
      have hpe := pay_eq h hi
      have ec : Ci xss (bestA xss (-1)) j = ent xss j (x : Int) := by unfold Ci; rw [he, if_pos (by omega)]
      rw [e]; omega
end

end Go.Proofs.Ytakladjlnkojjaa.Ax
