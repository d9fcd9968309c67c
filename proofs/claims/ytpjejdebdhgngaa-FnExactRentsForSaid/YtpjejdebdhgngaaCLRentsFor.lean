/-
  FnExactRentsFor: the two programs answer alike and the arguments read as they did. No condition.
-/
import Derived.Test.YtpjejdebdhgngaaCG94
import Derived.Test.YtpjejdebdhgngaaCG22
namespace Go.Proofs.Ytpjejdebdhgngaa.Ax
open Go Go.RowKit
set_option linter.unusedSimpArgs false

set_option maxRecDepth 4000 in
set_option maxHeartbeats 2000000 in
theorem law_RentsFor (n0 : Bool) (x0 : List (Bool × List Int)) (x1 : Int) : CallOk Try.prog 3 [intss n0 x0, int x1] (bool true) := by
  have hG : FnsOk Try.prog [(10, mSzIss), (12, mToIss), (11, mRentsF), (13, mRentsF), (14, mEqFs), (15, mEqIss), (18, mHeldF)] := (.cons szIntSS_ok (.cons toIntSS_ok (.cons specRentsF_ok (.cons implRentsF_ok (.cons eqFractionS_ok (.cons eqIntSS_ok (.cons heldFractionS_ok .nil)))))))
  have hM : FnsMut Try.prog [(16, mMarkII), (17, mMarkF)] := (.cons markIntSS_ok (.cons markFractionS_ok .nil))
  refine callOk_awp (ctxM_ok eqOk hG hM) mixed (live := [true, true, false, false, true, true, true, true, true, true, true, true, true, true, true, true, false, false, false, false, true, false, false, false, false, false, false, false, false, false, false, false, false, false, false, false, false, false, false, false, false, false, false, false, true, false, false, false, false, true, false, false, false, false, false, false, false, false, false, false, false, false, false, false, false, true, false, false, false, false, false, false, false, true, false, false, true, false, false, false, false, false, false, false, false, false, false, false, false, false, false, false, true, false, false, false, false, true, false, false, true]) (dt := []) Try.func3 rfl (by kernel_rfl) (by kernel_rfl) fun w0 hlens => ?_
  have l0 := lens_intss.1 hlens.1
  have z0 := mSzIss_at n0 x0 (1048576) (by omega) (fun x hx => by have := (l0.2 x hx).1; omega) (by omega) (by omega)
  by_cases h0 : (1048576 : Int) < (need x0 : Int)
  · simp [h0] at z0
    simp [Try.f3, List.range, List.range.loop, ints, intss, int, bool, row, frac, fracs, ← List.map_take, ← List.map_drop, List.eraseIdx, z0]
  have t0 : ¬ ((1048576 : Int) - (need x0 : Int)) < 0 := by omega
  have s0 := need_small (xss := x0) (by omega)
  have o0 := own_small s0
  simp [h0] at z0
  have mo0 := need_own (xss := x0)
  have mr0 : (rowSum (own x0) (own x0).length : Int) ≤ need (own x0) := by simp only [need]; omega
  have mk0 := mMarkII_at false (own x0) (1) ⟨by omega, by omega⟩
  have nk : ¬ (1 + (rowSum (own x0) (own x0).length : Int) < 0) := by omega
  have hres := mRentsF_at false (own x0) x1
  have hlr0 := rentFL_len (xss := own x0) (total := x1)
  have hlr : (rentFL (own x0) x1).length ≤ 2 ^ 40 := by omega
  generalize rentFB (own x0) x1 = gb at hres
  generalize (!gb) = gn at hres
  generalize rentFL (own x0) x1 = g2 at hres hlr
  obtain ⟨g, rfl, rfl⟩ : ∃ g : Bool × List (Int × Int), g.1 = gn ∧ g.2 = g2 := ⟨(gn, g2), rfl, rfl⟩
  have mkg := mMarkF_at g.1 g.2 1 ⟨by omega, by omega⟩
  have hdg := mHeldF_at g.1 g.2.length 1 ⟨by omega, by omega⟩
  have ng : ¬ (1 + 2 * (g.2.length : Int) < 0) := by omega
  simp (config := {maxSteps := 1000000}) [Try.f3, List.range, List.range.loop, ints, intss, int, bool, row, frac, fracs, ← List.map_take, ← List.map_drop, List.eraseIdx, z0, t0, s0, o0, mToIss_at, mEqIss_at, mk0, nk, ng, hres, mkg, hdg, mEqFs_at, hlr, mkd_len, mkRS_len, mkd_take, mkRS_take, mkdF_len, mkdF_take]

end Go.Proofs.Ytpjejdebdhgngaa.Ax
