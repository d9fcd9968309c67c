/-
  The auctions' law: what the contracts answer at drawn bids. Plain Lean, no program in sight.
-/
import Derived.Test.YtakladjlnkojjaaCG142
import Derived.Test.YtakladjlnkojjaaCG7
import Derived.Test.YtakladjlnkojjaaCG194
import Derived.Test.YtakladjlnkojjaaCG195
namespace Go.Proofs.Ytakladjlnkojjaa.Ax
open Go Go.RowKit
set_option linter.unusedSimpArgs false

section
variable {xss : List (Bool × List Int)} (h : rectB xss 4 4 1000 = true)
include h
theorem prA_len : (prA xss).length = wid xss := by
  have : ∀ (w : Nat) (a p : List Int) k, (prTo w a p k).length = w := fun w a p k => by
    induction k with
    | zero => simp [prTo]
    | succ k ih => unfold prTo; split <;> simp [ih]
  simp [prA, h, this]
theorem market_ok (hn : xss.length ≤ 3) (hw : wid xss ≤ 3) : marketB xss (bestA xss (-1)) (prA xss) = true := by
  have hA := best_awd h (wo := -1) (by omega)
  have hl := prA_len h
  have hAl := hA.len
  have hW := wx_bd h hA
  have hwi : ∀ i, i < xss.length → 0 ≤ W0 xss - Wi xss i ∧ W0 xss - Wi xss i ≤ 4000 := fun i hi => by
    have := wi_le h (i := i)
    have := (wx_bd h (best_awd h (wo := (i : Int)) (by omega))).1
    unfold W0 at *; unfold Wi at *; omega
  have hg : ∀ i, i < xss.length → gainOf xss (bestA xss (-1)) (prA xss) i = W0 xss - Wi xss i := fun i hi => by
    rw [← price_own h hi]
    unfold gainOf
    split
    · rename_i h0
      have hb := hA.at hi
      have he := ent_bdI h hi h0 (by omega)
      have hp := price_bd h (x := ((bestA xss (-1)).getD i 0).toNat) (by omega)
      unfold at0
      exact wrapI (by omega) (by omega)
    · rfl
  simp only [marketB, Bool.and_eq_true, decide_eq_true_eq]
  refine ⟨⟨⟨⟨bestA_award h (by omega), hl⟩, ?_⟩, ?_⟩, ?_⟩
  · unfold allIn
    rw [List.all_eq_true]
    intro x hx
    obtain ⟨i, hi, rfl⟩ := List.getElem_of_mem hx
    have := price_bd h (x := i) (by omega)
    rw [getD_at hi] at this
    simpa [inR] using this
  · refine allR_yes fun x hx => ?_
    have hx' : x < wid xss := by omega
    simp only [mkA, Bool.not_eq_true', Bool.and_eq_false_iff, decide_eq_false_iff_not, Bool.not_eq_false', decide_eq_true_eq]
    rcases price_at h hx' with ⟨_, h0⟩ | ⟨j, hj, he, _⟩
    · left; omega
    · right
      refine Int.not_lt.1 fun hneg => ?_
      have hm : (x : Int) ∈ bestA xss (-1) := he ▸ mem_getD (by omega)
      have := pos_iff.2 hm; omega
  · refine allR_yes fun i hi => ?_
    have hi' : i < xss.length := by omega
    have hgi := hg i hi'
    have hwi' := hwi i hi'
    simp only [mkB, Bool.and_eq_true, Bool.not_eq_true', decide_eq_false_iff_not, hgi]
    refine ⟨by omega, allR_yes fun x hx => ?_⟩
    have hx' : x < wid xss := by omega
    have hc := price_core h hn hw hi' hx'
    have hp := price_bd h hx'
    have he := ent_bdI h hi' (k := (x : Int)) (by omega) (by omega)
    simp only [mkC, Bool.not_eq_true', decide_eq_false_iff_not]
    unfold at0
    rw [wrapI (by omega) (by omega)]; omega
end

end Go.Proofs.Ytakladjlnkojjaa.Ax
