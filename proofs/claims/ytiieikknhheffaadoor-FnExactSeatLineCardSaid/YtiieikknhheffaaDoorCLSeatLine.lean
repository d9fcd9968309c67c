/-
  FnExactSeatLine: the two programs answer alike and the arguments read as they did. No condition.
-/
import Derived.Test.YtiieikknhheffaaDoorCG9
namespace Go.Proofs.YtiieikknhheffaaDoor.Ax
open Go Go.RowKit
set_option linter.unusedSimpArgs false

set_option maxHeartbeats 1000000 in
theorem law_SeatLine (me : Int) (n0 : Bool) (x0 : List Int) (n : Int) : CallOk Tryd.prog 3 [int me, ints n0 x0, int n] (bool true) := by
  have hG : FnsOk Tryd.prog [(5, mToIs), (4, mSl), (6, mSl), (7, mEqIs)] := (.cons toIntS_ok (.cons specSl_ok (.cons implSl_ok (.cons eqIntS_ok .nil))))
  refine callOk_awp (ctx_ok eqOk hG) mixed (live := [true, true, true, false, false, false, true, true, true, true, false, false, true, false, false, false, false, false, false, false, false, false, false, false, false, false, true, false, false, false, false, true]) (dt := []) Tryd.func3 rfl (by kernel_rfl) (by kernel_rfl) fun w0 hlens => ?_
  by_cases g0 : (1048576 : Int) < x0.length
  · simp [Tryd.f3, List.range, List.range.loop, ints, intss, int, bool, row, frac, fracs, ← List.map_take, ← List.map_drop, g0]
  have b0 : x0.length ≤ 2 ^ 40 := by omega
  have hm := mSl_at me false x0 n
  have ht : List.take x0.length (x0.map int) = x0.map int := List.take_of_length_le (by simp)
  have ht2 : List.take x0.length x0 = x0 := List.take_of_length_le (by simp)
  simp [Tryd.f3, List.range, List.range.loop, ints, intss, int, bool, row, frac, fracs, ← List.map_take, ← List.map_drop, g0, b0, mToIs_at, mEqIs_at, hm, ht, ht2]

end Go.Proofs.YtiieikknhheffaaDoor.Ax
