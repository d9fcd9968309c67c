/-
  The auctions' law: what its calls answer. No condition.
-/
import Derived.Test.YtakladjlnkojjaaCG196
import Derived.Test.YtakladjlnkojjaaCG4
namespace Go.Proofs.Ytakladjlnkojjaa.Ax
open Go Go.RowKit
set_option linter.unusedSimpArgs false

/-- What the law uses of the draws. -/
theorem auc_facts (by' : List Int) : ∃ A P T : List Int, ∃ W : Int, A.length = (mkBids by').length ∧ P.length = A.length ∧
    (∀ nl, mBestAward [.sl nl 1 ((mkBids by').map row)] = some (.sl false 1 (A.map int))) ∧
    (∀ nl, mPayments [.sl nl 1 ((mkBids by').map row)] = some (.sl false 1 (P.map int))) ∧
    (∀ nl, mPrices [.sl nl 1 ((mkBids by').map row)] = some (.sl false 1 (T.map int))) ∧
    (∀ nl, mBestWorth [.sl nl 1 ((mkBids by').map row)] = some (.v (.int .i64 W))) ∧
    awardB (mkBids by') A = true ∧ marketB (mkBids by') A T = true ∧ awTo (mkBids by') A A.length = W ∧ W = W0 (mkBids by') ∧
    (∀ i, i < A.length → -1 ≤ A.getD i 0 ∧ A.getD i 0 < (wid (mkBids by') : Int) ∧ 0 ≤ P.getD i 0 ∧ (A.getD i 0 < 0 → P.getD i 0 = 0) ∧ (0 ≤ A.getD i 0 → P.getD i 0 ≤ ent (mkBids by') i (A.getD i 0))) := by
  obtain ⟨h, hn, hw⟩ := mkBids_rect by'
  generalize mkBids by' = V at *
  have hA := best_awd h (wo := -1) (by omega)
  have hpl : (payA V).length = V.length := by simp [payA_yes h, payL]
  refine ⟨bestA V (-1), payA V, prA V, W0 V, hA.len, by rw [hpl, hA.len], fun nl => ?_, fun nl => ?_, fun nl => ?_, fun nl => ?_, bestA_award h (by omega), market_ok h hn hw, wAw_eq h hA, rfl, fun i hi => ?_⟩
  · rw [mBestAward_at, h, bA_yes h]; rfl
  · rw [mPayments_at, h]; rfl
  · rw [mPrices_at, h]; rfl
  · rw [mBestWorth_at, if_pos h]; exact congrArg (fun x => some (AV.v (.int .i64 x))) (wAw_eq h hA)
  · have hi' : i < V.length := by have := hA.len; omega
    have hb := hA.at hi'
    obtain ⟨h1, h2, h3⟩ := pay_bd h hi'
    rw [pay_at h hi']
    refine ⟨hb.1, by omega, h1, fun hn => pay_out h hi' hn, fun h0 => ?_⟩
    unfold Ci at h2; rwa [if_pos h0] at h2

/-- The other bids of a bidder. -/
def othT (by' : List Int) (k : Nat) : List Int := (List.range k).map fun g => (mkNum by' (62 + 2 * g)).tmod 16
theorem oth_bd {by' : List Int} {k : Nat} : ∀ x ∈ othT by' k, 0 ≤ x ∧ x ≤ 15 := by
  intro x hx
  obtain ⟨g, _, rfl⟩ := List.mem_map.1 hx
  have := mkNum_bd (by' := by') (n := 62 + 2 * g)
  rw [Int.tmod_eq_emod_of_nonneg this.1]; omega
theorem oth_len {by' : List Int} {k : Nat} : (othT by' k).length = k := by simp [othT]
theorem rect_mk {T : List (Bool × List Int)} (h0 : 0 < T.length) (h4 : T.length ≤ 4) {w : Nat} (hw : 1 ≤ w ∧ w ≤ 4) (ha : ∀ r ∈ T, r.2.length = w ∧ ∀ x ∈ r.2, 0 ≤ x ∧ x ≤ 1000) : rectB T 4 4 1000 = true := by
  cases T with
  | nil => simp at h0
  | cons r0 l =>
    have h00 := (ha r0 (by simp)).1
    simp only [rectB, Bool.and_eq_true, inR, decide_eq_true_eq, List.all_eq_true]
    refine ⟨⟨⟨by omega, by omega⟩, by omega, by omega⟩, fun r hr => ?_⟩
    obtain ⟨h1, h2⟩ := ha r hr
    simp only [rowIs, Bool.and_eq_true, decide_eq_true_eq, List.all_eq_true, inR]
    exact ⟨by omega, fun x hx => by have := h2 x hx; omega⟩
theorem told_rect {xss : List (Bool × List Int)} (h : rectB xss 4 4 1000 = true) {i : Nat} (hi : i < xss.length) {nb : Bool} {bids : List Int} (hb : bids.length = wid xss) (hx : ∀ x ∈ bids, 0 ≤ x ∧ x ≤ 1000) : rectB (told xss (i : Int) nb bids) 4 4 1000 = true := by
  obtain ⟨l1, l2, l3⟩ := rect_len h
  have hl : (told xss (i : Int) nb bids).length = xss.length := by simp [told]
  refine rect_mk (by omega) (by omega) (w := wid xss) (by omega) fun r hr => ?_
  rcases List.mem_or_eq_of_mem_set hr with hr | rfl
  · obtain ⟨k, hk, rfl⟩ := List.getElem_of_mem hr
    exact rect_row h hk
  · exact ⟨hb, hx⟩
theorem mkBids_plain (by' : List Int) : plain (mkBids by') := fun r hr => (drT_all (by omega) r hr).1
/-- The two gains, and the worth without the bidder. -/
theorem auc_gain (by' : List Int) {i : Nat} (hi : i < (mkBids by').length) : ∃ g g' u : Int,
    (∀ nl, mGainW [.sl nl 1 ((mkBids by').map row), .v (.int .i64 (i : Int)), .sl false 1 (((mkBids by').getD i (true, [])).2.map int)] = some (.tup [.v (.int .i64 g), .v (.bool true)])) ∧
    (∀ nl, mGainW [.sl nl 1 ((mkBids by').map row), .v (.int .i64 (i : Int)), .sl false 1 ((othT by' (wid (mkBids by'))).map int)] = some (.tup [.v (.int .i64 g'), .v (.bool true)])) ∧
    (∀ nl, mWithout [.sl nl 1 ((mkBids by').map row), .v (.int .i64 (i : Int))] = some (.v (.int .i64 u))) ∧
    0 ≤ g ∧ g' ≤ g ∧ g = W0 (mkBids by') - u ∧ 0 ≤ u ∧ u ≤ 4000 ∧ g ≤ 4000 := by
  obtain ⟨h, hn, hw⟩ := mkBids_rect by'
  have hp := mkBids_plain by'
  obtain ⟨l1, l2, l3⟩ := rect_len h
  have hob := oth_bd (by' := by') (k := wid (mkBids by'))
  have hol := oth_len (by' := by') (k := wid (mkBids by'))
  generalize othT by' (wid (mkBids by')) = bids at *
  generalize mkBids by' = V at *
  have hrow := rect_row h hi
  have hgd : V.getD i (true, []) = V[i] := by rw [List.getD_eq_getElem?_getD, List.getElem?_eq_getElem hi]; rfl
  rw [hgd]
  have hT1 := told_rect h hi (nb := false) (bids := V[i].2) hrow.1 hrow.2
  have hT2 := told_rect h hi (nb := false) (bids := bids) hol fun x hx => by have := hob x hx; omega
  have hG1 : gainB V (i : Int) false V[i].2 = true := by
    simp only [gainB, h, hT1, Bool.and_true, Bool.true_and, Bool.and_eq_true, decide_eq_true_eq]; omega
  have hG2 : gainB V (i : Int) false bids = true := by
    simp only [gainB, h, hT2, Bool.and_true, Bool.true_and, Bool.and_eq_true, decide_eq_true_eq]; omega
  have e1 : gainI V (i : Int) false V[i].2 = W0 V - Wi V i := by
    rw [gainI, if_pos hG1]; exact gain_own h hi hT1 hrow.1 (by rw [hgd])
  have e2 : gainI V (i : Int) false bids ≤ W0 V - Wi V i := by
    rw [gainI, if_pos hG2]; exact gain_le h hi hT2 hol
  have hAi := best_awd h (wo := (i : Int)) (by omega)
  have hA0 := best_awd h (wo := -1) (by omega)
  have e3 : wwB V (i : Int) = Wi V i := by
    rw [wwB, if_pos ⟨h, by omega, by omega⟩]; exact wAw_eq h hAi
  have b1 := wx_bd h hAi
  have b0 := wx_bd h hA0
  have hle := wi_le h (i := i)
  refine ⟨W0 V - Wi V i, gainI V (i : Int) false bids, Wi V i, fun nl => ?_, fun nl => ?_, fun nl => ?_, by omega, e2, rfl, b1.1, b1.2, ?_⟩
  · rw [mGainW_at nl V i false _ hp, e1, hG1]
  · rw [mGainW_at nl V i false _ hp, hG2]
  · rw [mWithout_at, e3]
  · unfold W0 Wi at *; omega

end Go.Proofs.Ytakladjlnkojjaa.Ax
