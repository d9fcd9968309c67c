/-
  FnExactFormatLottery: the two programs answer alike and the arguments read as they did. No condition.
-/
import Derived.Test.YtlkgppincgpfjaaDoorCG5
namespace Go.Proofs.YtlkgppincgpfjaaDoor.Ax
open Go Go.RowKit
set_option linter.unusedSimpArgs false

set_option maxHeartbeats 1000000 in
theorem law_FormatLottery (n0 : Bool) (x0 : List (Bool × List (Int × Int))) : CallOk Tryd.prog 7 [fracss n0 x0] (bool true) := by
  have hG : FnsOk Tryd.prog [(24, mSzFss), (26, mToFss), (25, mFLot), (27, mFLot), (28, mEqFss)] := (.cons szFractionSS_ok (.cons toFractionSS_ok (.cons specFormatLottery_ok (.cons implFormatLottery_ok (.cons eqFractionSS_ok .nil)))))
  refine callOk_awp (ctx_ok eqOk hG) mixed (live := [true, false, true, true, true, true, true, false, false, false, false, true, false, false, false, false, false, false, false, false, false, true, false, false, false, false, true]) (dt := []) Tryd.func7 rfl (by kernel_rfl) (by kernel_rfl) fun w0 hlens => ?_
  have l0 := lens_fracss.1 hlens.1
  have z0 := mSzFss_at n0 x0 (1048576) (by omega) (fun x hx => by have := (l0.2 x hx).1; omega) (by omega) (by omega)
  by_cases h0 : (1048576 : Int) < (needF x0 : Int)
  · simp [h0] at z0
    simp [Tryd.f7, List.range, List.range.loop, ints, intss, int, bool, row, frac, fracs, ← List.map_take, ← List.map_drop, fracss, frow, z0]
  have t0 : ¬ ((1048576 : Int) - (needF x0 : Int)) < 0 := by omega
  have s0 := needF_small (xss := x0) (by omega)
  have o0 := ownF_small s0
  simp [h0] at z0
  simp [Tryd.f7, List.range, List.range.loop, ints, intss, int, bool, row, frac, fracs, ← List.map_take, ← List.map_drop, fracss, frow, z0, t0, s0, o0, mToFss_at, mEqFss_at, mFLot_at]

end Go.Proofs.YtlkgppincgpfjaaDoor.Ax
