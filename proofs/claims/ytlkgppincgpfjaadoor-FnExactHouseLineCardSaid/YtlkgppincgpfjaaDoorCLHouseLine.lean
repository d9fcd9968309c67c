/-
  FnExactHouseLine: the two programs answer alike and the arguments read as they did. No condition.
-/
import Derived.Test.YtlkgppincgpfjaaDoorCG12
namespace Go.Proofs.YtlkgppincgpfjaaDoor.Ax
open Go Go.RowKit
set_option linter.unusedSimpArgs false

set_option maxHeartbeats 1000000 in
theorem law_HouseLine (n0 : Bool) (x0 : List (Bool × List Int)) : CallOk Tryd.prog 4 [intss n0 x0] (bool true) := by
  have hG : FnsOk Tryd.prog [(10, mSzIss), (12, mToIss), (15, mHou), (16, mHou), (14, mEqIss)] := (.cons szIntSS_ok (.cons toIntSS_ok (.cons specHouse_ok (.cons implHouse_ok (.cons eqIntSS_ok .nil)))))
  refine callOk_awp (ctx_ok eqOk hG) mixed (live := [true, false, true, true, true, true, true, false, false, false, false, true, false, false, false, false, false, false, false, false, false, true, false, false, false, false, true]) (dt := []) Tryd.func4 rfl (by kernel_rfl) (by kernel_rfl) fun w0 hlens => ?_
  have l0 := lens_intss.1 hlens.1
  have z0 := mSzIss_at n0 x0 (1048576) (by omega) (fun x hx => by have := (l0.2 x hx).1; omega) (by omega) (by omega)
  by_cases h0 : (1048576 : Int) < (need x0 : Int)
  · simp [h0] at z0
    simp [Tryd.f4, List.range, List.range.loop, ints, intss, int, bool, row, frac, fracs, ← List.map_take, ← List.map_drop, z0]
  have t0 : ¬ ((1048576 : Int) - (need x0 : Int)) < 0 := by omega
  have s0 := need_small (xss := x0) (by omega)
  have o0 := own_small s0
  simp [h0] at z0
  simp [Tryd.f4, List.range, List.range.loop, ints, intss, int, bool, row, frac, fracs, ← List.map_take, ← List.map_drop, z0, t0, s0, o0, mToIss_at, mEqIss_at, mHou_at]

end Go.Proofs.YtlkgppincgpfjaaDoor.Ax
