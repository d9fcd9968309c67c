/-
  FnExactFormatNumbers: the two programs answer alike and the arguments read as they did. No condition.
-/
import Derived.Test.YtlkgppincgpfjaaDoorCG2
namespace Go.Proofs.YtlkgppincgpfjaaDoor.Ax
open Go Go.RowKit
set_option linter.unusedSimpArgs false

set_option maxHeartbeats 1000000 in
theorem law_FormatNumbers (n0 : Bool) (x0 : List Int) (hx : ∀ n ∈ x0, inI n) : CallOk Tryd.prog 8 [ints n0 x0] (bool true) := by
  have hG : FnsOk Tryd.prog [(30, mToIs), (29, mFNum), (31, mFNum), (32, mEqIs)] := (.cons toIntS_ok (.cons specFormatNumbers_ok (.cons implFormatNumbers_ok (.cons eqIntS_ok .nil))))
  refine callOk_awp (ctx_ok eqOk hG) mixed (live := [true, false, true, true, true, true, false, false, true, false, false, false, false, false, false, false, false, false, true, false, false, false, false, true]) (dt := []) Tryd.func8 rfl (by kernel_rfl) (by kernel_rfl) fun w0 hlens => ?_
  by_cases g0 : (1048576 : Int) < x0.length
  · simp [Tryd.f8, List.range, List.range.loop, ints, intss, int, bool, row, frac, fracs, ← List.map_take, ← List.map_drop, g0]
  have b0 : x0.length ≤ 2 ^ 40 := by omega
  have hm := mFNum_at false x0 ⟨by omega, hx⟩
  have ht : List.take x0.length (x0.map int) = x0.map int := List.take_of_length_le (by simp)
  simp [Tryd.f8, List.range, List.range.loop, ints, intss, int, bool, row, frac, fracs, ← List.map_take, ← List.map_drop, g0, b0, mToIs_at, mEqIs_at, hm, ht]

end Go.Proofs.YtlkgppincgpfjaaDoor.Ax
