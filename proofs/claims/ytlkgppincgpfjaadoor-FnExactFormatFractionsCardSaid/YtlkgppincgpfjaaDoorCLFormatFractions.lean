/-
  FnExactFormatFractions: the two programs answer alike and the arguments read as they did. No condition.
-/
import Derived.Test.YtlkgppincgpfjaaDoorCG2
namespace Go.Proofs.YtlkgppincgpfjaaDoor.Ax
open Go Go.RowKit
set_option linter.unusedSimpArgs false

set_option maxHeartbeats 1000000 in
theorem law_FormatFractions (n0 : Bool) (x0 : List (Int × Int)) : CallOk Tryd.prog 6 [fracs n0 x0] (bool true) := by
  have hG : FnsOk Tryd.prog [(19, mSzF), (21, mToFs), (20, mFFs), (22, mFFs), (23, mEqFs)] := (.cons szFractionS_ok (.cons toFractionS_ok (.cons specFormatFractions_ok (.cons implFormatFractions_ok (.cons eqFractionS_ok .nil)))))
  refine callOk_awp (ctx_ok eqOk hG) mixed (live := [true, false, true, true, true, true, true, false, false, false, false, true, false, false, false, false, false, false, false, false, false, true, false, false, false, false, true]) (dt := []) Tryd.func6 rfl (by kernel_rfl) (by kernel_rfl) fun w0 hlens => ?_
  have l0 := lens_fracs.1 hlens.1
  have z0 := mSzF_at n0 x0 (1048576) (by omega) (by omega) (by omega)
  by_cases h0 : (1048576 : Int) < (x0.length : Int)
  · simp [h0] at z0
    simp [Tryd.f6, List.range, List.range.loop, ints, intss, int, bool, row, frac, fracs, ← List.map_take, ← List.map_drop, z0]
  have t0 : ¬ ((1048576 : Int) - (x0.length : Int)) < 0 := by omega
  have b0 : x0.length ≤ 2 ^ 40 := by omega
  have hm := mFFs_at false x0 (by omega)
  simp [h0] at z0
  simp [Tryd.f6, List.range, List.range.loop, ints, intss, int, bool, row, frac, fracs, ← List.map_take, ← List.map_drop, z0, t0, b0, mToFs_at, mEqFs_at, hm]

end Go.Proofs.YtlkgppincgpfjaaDoor.Ax
