/-
  FnExactRentLine: the two programs answer alike and the arguments read as they did. No condition.
-/
import Derived.Test.YtblnpjppckfmfaaDoorCG9
namespace Go.Proofs.YtblnpjppckfmfaaDoor.Ax
open Go Go.RowKit
set_option linter.unusedSimpArgs false

set_option maxHeartbeats 1000000 in
theorem law_RentLine (n0 : Bool) (x0 : List (Bool × List Int)) (x1 : Int) : CallOk Tryd.prog 5 [intss n0 x0, int x1] (bool true) := by
  have hG : FnsOk Tryd.prog [(16, mSzIss), (18, mToIss), (17, mRLine), (19, mRLine), (13, mEqIss)] := (.cons szIntSS_ok (.cons toIntSS_ok (.cons specRentLine_ok (.cons implRentLine_ok (.cons eqIntSS_ok .nil)))))
  refine callOk_awp (ctx_ok eqOk hG) mixed (live := [true, true, false, false, true, true, true, true, true, false, false, false, false, true, false, false, false, false, false, false, false, false, false, false, false, true, false, false, false, false, true]) (dt := []) Tryd.func5 rfl (by kernel_rfl) (by kernel_rfl) fun w0 hlens => ?_
  have l0 := lens_intss.1 hlens.1
  have z0 := mSzIss_at n0 x0 (1048576) (by omega) (fun x hx => by have := (l0.2 x hx).1; omega) (by omega) (by omega)
  by_cases h0 : (1048576 : Int) < (need x0 : Int)
  · simp [h0] at z0
    simp [Tryd.f5, List.range, List.range.loop, ints, intss, int, bool, row, frac, fracs, ← List.map_take, ← List.map_drop, z0]
  have t0 : ¬ ((1048576 : Int) - (need x0 : Int)) < 0 := by omega
  have s0 := need_small (xss := x0) (by omega)
  have o0 := own_small s0
  simp [h0] at z0
  simp [Tryd.f5, List.range, List.range.loop, ints, intss, int, bool, row, frac, fracs, ← List.map_take, ← List.map_drop, z0, t0, s0, o0, mToIss_at, mEqIss_at, mRLine_at]

end Go.Proofs.YtblnpjppckfmfaaDoor.Ax
