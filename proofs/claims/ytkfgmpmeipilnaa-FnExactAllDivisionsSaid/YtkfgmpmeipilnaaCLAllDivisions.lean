/-
  FnExactAllDivisions: the two programs answer alike and the arguments read as they did. No condition.
-/
import Derived.Test.YtkfgmpmeipilnaaCG134
import Derived.Test.YtkfgmpmeipilnaaCG20
namespace Go.Proofs.Ytkfgmpmeipilnaa.Ax
open Go Go.RowKit
set_option linter.unusedSimpArgs false

set_option maxHeartbeats 1000000 in
theorem law_AllDivisions (n0 : Bool) (x0 : List (Bool × List Int)) : CallOk Try.prog 8 [intss n0 x0] (bool true) := by
  have hG : FnsOk Try.prog [(10, mSzIss), (12, mToIss), (37, mAllD), (38, mAllD), (15, mEqIss), (39, mHeldII)] := (.cons szIntSS_ok (.cons toIntSS_ok (.cons specAllDivisions_ok (.cons implAllDivisions_ok (.cons eqIntSS_ok (.cons heldIntSS_ok .nil))))))
  have hM : FnsMut Try.prog [(16, mMarkII)] := (.cons markIntSS_ok .nil)
  refine callOk_awp (ctxM_ok eqOk hG hM) mixed (live := [true, false, true, true, true, true, true, true, true, true, true, false, false, false, false, true, false, false, false, false, false, false, false, false, false, false, true, false, false, false, false, true, false, false, false, false, false, false, false, false, false, false, true, false, false, false, false, false, false, false, true, false, false, true, false, false, false, false, false, false, true, false, false, false, false, true, false, false, true]) (dt := []) Try.func8 rfl (by kernel_rfl) (by kernel_rfl) fun w0 hlens => ?_
  have l0 := lens_intss.1 hlens.1
  have z0 := mSzIss_at n0 x0 (1048576) (by omega) (fun x hx => by have := (l0.2 x hx).1; omega) (by omega) (by omega)
  by_cases h0 : (1048576 : Int) < (need x0 : Int)
  · simp [h0] at z0
    simp [Try.f8, List.range, List.range.loop, ints, intss, int, bool, row, frac, fracs, ← List.map_take, ← List.map_drop, List.eraseIdx, z0]
  have t0 : ¬ ((1048576 : Int) - (need x0 : Int)) < 0 := by omega
  have s0 := need_small (xss := x0) (by omega)
  have o0 := own_small s0
  simp [h0] at z0
  have mo0 := need_own (xss := x0)
  have mr0 : (rowSum (own x0) (own x0).length : Int) ≤ need (own x0) := by simp only [need]; omega
  have mk0 := mMarkII_at false (own x0) (1) ⟨by omega, by omega⟩
  have nk : ¬ (1 + (rowSum (own x0) (own x0).length : Int) < 0) := by omega
  have hres := mAllD_atP false (own x0)
  have hlr := divsP_need (xss := own x0)
  generalize divsP (own x0) = g at hres hlr
  have hsg := need_small (xss := g.2) (by omega)
  have mkg := mMarkII_at g.1 g.2 1 ⟨by omega, by omega⟩
  have hdg := mHeldII_at g.1 g.2 1 ⟨by omega, by omega⟩
  have ng : ¬ (1 + (rowSum g.2 g.2.length : Int) < 0) := by omega
  simp [Try.f8, List.range, List.range.loop, ints, intss, int, bool, row, frac, fracs, ← List.map_take, ← List.map_drop, List.eraseIdx, z0, t0, s0, o0, mToIss_at, mEqIss_at, mk0, nk, ng, hres, mkg, hdg, mEqIss_at, hsg, mkRS_len, mkd_len, mkRS_len, mkd_take, mkRS_take]

end Go.Proofs.Ytkfgmpmeipilnaa.Ax
