/-
  FnExactMovingKnife: the two programs answer alike and the arguments read as they did. No condition.
-/
import Derived.Test.YtlkgppincgpfjaaCG90
namespace Go.Proofs.Ytlkgppincgpfjaa.Ax
open Go Go.RowKit
set_option linter.unusedSimpArgs false

set_option maxHeartbeats 1000000 in
theorem law_MovingKnife (n0 : Bool) (x0 : List (Bool × List Int)) : CallOk Try.prog 4 [intss n0 x0] (bool true) := by
  have hG : FnsOk Try.prog [(5, mSzIss), (7, mToIss), (14, mKnife), (15, mKnife), (16, mEqIs), (10, mEqIss), (18, mHeldI)] := (.cons szIntSS_ok (.cons toIntSS_ok (.cons specKnife_ok (.cons implKnife_ok (.cons eqIntS_ok (.cons eqIntSS_ok (.cons heldIntS_ok .nil)))))))
  have hM : FnsMut Try.prog [(11, mMarkII), (17, mMarkI)] := (.cons markIntSS_ok (.cons markIntS_ok .nil))
  refine callOk_awp (ctxM_ok eqOk hG hM) mixed (live := [true, false, true, true, true, true, true, true, true, true, true, false, false, false, false, true, false, false, false, false, false, false, false, false, false, false, true, false, false, false, false, true, false, false, false, false, false, false, false, false, false, false, true, false, false, false, false, false, false, false, true, false, false, true, false, false, false, false, false, false, true, false, false, false, false, true, false, false, true]) (dt := []) Try.func4 rfl (by kernel_rfl) (by kernel_rfl) fun w0 hlens => ?_
  have l0 := lens_intss.1 hlens.1
  have z0 := mSzIss_at n0 x0 (1048576) (by omega) (fun x hx => by have := (l0.2 x hx).1; omega) (by omega) (by omega)
  by_cases h0 : (1048576 : Int) < (need x0 : Int)
  · simp [h0] at z0
    simp [Try.f4, List.range, List.range.loop, ints, intss, int, bool, row, frac, fracs, ← List.map_take, ← List.map_drop, List.eraseIdx, z0]
  have t0 : ¬ ((1048576 : Int) - (need x0 : Int)) < 0 := by omega
  have s0 := need_small (xss := x0) (by omega)
  have o0 := own_small s0
  simp [h0] at z0
  have mo0 := need_own (xss := x0)
  have mr0 : (rowSum (own x0) (own x0).length : Int) ≤ need (own x0) := by simp only [need]; omega
  have mk0 := mMarkII_at false (own x0) (1) ⟨by omega, by omega⟩
  have nk : ¬ (1 + (rowSum (own x0) (own x0).length : Int) < 0) := by omega
  have hres := mKnife_at false (own x0)
  have hlr0 := knL_len (xss := own x0)
  have hlr : (knL (own x0)).length ≤ 2 ^ 40 := by omega
  generalize (!rectB (own x0) 3 10 100) = gn at hres
  generalize knL (own x0) = g2 at hres hlr
  obtain ⟨g, rfl, rfl⟩ : ∃ g : Bool × List Int, g.1 = gn ∧ g.2 = g2 := ⟨(gn, g2), rfl, rfl⟩
  have mkg := mMarkI_at g.1 g.2 1 ⟨by omega, by omega⟩
  have hdg := mHeldI_at g.1 g.2.length 1 ⟨by omega, by omega⟩
  have ng : ¬ (1 + (g.2.length : Int) < 0) := by omega
  simp [Try.f4, List.range, List.range.loop, ints, intss, int, bool, row, frac, fracs, ← List.map_take, ← List.map_drop, List.eraseIdx, z0, t0, s0, o0, mToIss_at, mEqIss_at, mk0, nk, ng, hres, mkg, hdg, mEqIs_at, hlr, mkd_len, mkRS_len, mkd_take, mkRS_take]

end Go.Proofs.Ytlkgppincgpfjaa.Ax
