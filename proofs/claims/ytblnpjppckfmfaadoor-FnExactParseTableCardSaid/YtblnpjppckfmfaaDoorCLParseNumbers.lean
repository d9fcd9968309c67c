/-
  FnExactParseNumbers: the two programs answer alike. No condition.
-/
import Derived.Test.YtblnpjppckfmfaaDoorCG222
import Derived.Test.YtblnpjppckfmfaaDoorCG20
namespace Go.Proofs.YtblnpjppckfmfaaDoor.Ax
open Go Go.RowKit
set_option linter.unusedSimpArgs false

theorem prw_len {b : Bool} {s : ByteArray} (h : pnK s = true) : (prw b s).2.length ≤ 20 := by
  unfold prw
  split
  · simp
  · rename_i hs
    simp only [pnK, hs, decide_false, Bool.false_or] at h
    exact pnL_20 h
theorem prw_two {s : ByteArray} : (prw true s).2 = (prw false s).2 := by unfold prw; split <;> rfl

set_option maxHeartbeats 1000000 in
theorem law_ParseNumbers (s : ByteArray) : CallOk Tryd.prog 3 [str s] (bool true) := by
  have hG : FnsOk Tryd.prog [(6, (mPN false)), (7, (mPN true)), (8, mEqIs), (10, mHeldI)] := (.cons specPN_ok (.cons implPN_ok (.cons eqIntS_ok (.cons heldIntS_ok .nil))))
  have hM : FnsMut Tryd.prog [(9, mMarkI)] := (.cons markIntS_ok .nil)
  refine callOk_awp (ctxM_ok eqOk hG hM) mixed (live := [true, false, true, true, true, true, true, true, true, true, true, false, false, true, false, false, false, false, false, false, false, false, false, false, false, false, false, false, false, false, false, false, true, false, false, false, false, false, false, false, true, false, false, true, false, false, false, false, false, false, false, false, false, false, false, false, false, true, false, false, false, false, true, false, false, true]) (dt := []) Tryd.func3 rfl (by kernel_rfl) (by kernel_rfl) fun w0 hlens => ?_
  clear hlens
  by_cases h0 : (1048576 : Int) < s.size
  · simp [Tryd.f3, List.range, List.range.loop, ints, intss, int, bool, row, frac, fracs, ← List.map_take, ← List.map_drop, List.eraseIdx, str, h0]
  have hw := mPN_at false s (by omega)
  have hg := mPN_at true s (by omega)
  rw [pnR_eq] at hw hg
  cases hk : pnK s with
  | false =>
    rw [hk] at hw hg
    simp at hw hg
    have mkg := mMarkI_at true [] 1 ⟨by omega, by simp⟩
    have hdg := mHeldI_at true 0 1 ⟨by omega, by omega⟩
    have he := mEqIs_at true true [] [] (by simp) (by simp)
    simp [mkd] at mkg hdg he
    simp [Tryd.f3, List.range, List.range.loop, ints, intss, int, bool, row, frac, fracs, ← List.map_take, ← List.map_drop, List.eraseIdx, str, h0, hw, hg, mkg, hdg, he]
    done
  | true =>
    have hl := prw_len (b := true) hk
    rw [hk] at hw hg
    have e2 := prw_two (s := s)
    simp only [if_true] at hw hg
    rw [← e2] at hw
    generalize (prw true s).2 = l at *
    generalize (prw false s).1 = n1 at *
    generalize (prw true s).1 = n2 at *
    have mkg := mMarkI_at n2 l 1 ⟨by omega, by omega⟩
    have hdg := mHeldI_at n2 l.length 1 ⟨by omega, by omega⟩
    have ng : ¬ (1 + (l.length : Int) < 0) := by omega
    have hl2 : l.length ≤ 2 ^ 40 := by omega
    simp [Tryd.f3, List.range, List.range.loop, ints, intss, int, bool, row, frac, fracs, ← List.map_take, ← List.map_drop, List.eraseIdx, str, h0, hw, hg, mkg, hdg, mEqIs_at, hl2, ng, mkd_len, mkd_take]
    done

end Go.Proofs.YtblnpjppckfmfaaDoor.Ax
