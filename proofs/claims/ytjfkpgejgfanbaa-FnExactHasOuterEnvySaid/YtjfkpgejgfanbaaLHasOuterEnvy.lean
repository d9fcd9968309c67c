/-
  FnExactHasOuterEnvy: the two programs answer alike and the arguments read as they did. No condition.
-/
import Derived.Test.YtjfkpgejgfanbaaG9
namespace Go.Proofs.Ytjfkpgejgfanbaa.Ax
open Go Go.RowKit
set_option linter.unusedSimpArgs false

set_option maxHeartbeats 1000000 in
theorem law_HasOuterEnvy (n0 : Bool) (x0 : List (Bool × List Int)) (n1 : Bool) (x1 : List Int) : CallOk Try.prog 13 [intss n0 x0, ints n1 x1] (bool true) := by
  have hG : FnsOk Try.prog [(15, mSzIss), (17, mToIss), (18, mToIs), (49, mHasOuter), (50, mHasOuter), (20, mEqIss), (21, mEqIs)] := (.cons szIntSS_ok (.cons toIntSS_ok (.cons toIntS_ok (.cons specHasOuterEnvy_ok (.cons implHasOuterEnvy_ok (.cons eqIntSS_ok (.cons eqIntS_ok .nil)))))))
  refine callOk_awp (ctx_ok eqOk hG) mixed (live := [true, true, false, false, true, true, true, true, true, true, false, false, true, false, false, false, false, true, false, false, false, false, false, false, false, false, false, false, false, false, false, false, true, false, false, false, false, true, false, false, false, false, true]) Try.func13 rfl (by kernel_rfl) (by kernel_rfl) fun w0 hlens => ?_
  by_cases g1 : (1048576 : Int) < x1.length
  · simp (config := {contextual := true}) [Try.f13, awp_skip, awp_seq, awp_block, awp_exit, awp_ret, awp_loop, awp_region, awp_cond, contS_normal, contS_exit, contS_ret, inB_normal, inB_exit, inB_ret, loopS_normal, loopS_exit, loopS_ret, doneS_normal, doneS_ret, regS_some, condS_bool, bindS_some, rrun_nil, rrun_cons, outD_some, stepG_some, rstep_eq, callOut_some, callV_fn, aop_call, take_map_all, guardOk, aop, ev, putD, ofV, ofV1, Value.oneCell', asNat, abin, aun, pickAV, scal, frz, TypeDesc.aggB, AV.cells, lenAV, getAt, loadCell, loadCells, res, resL, intern, internL, putCells, ownR, ownRL, drops, flat, kill, killL, killN, killNL, clean, keep, refsL, refs, once, place, renL, ren, ctx, G, resOk, resVars, resVar, ownR, ownRL, pack, viewEs, bndOf, appX, appY, List.range, List.range.loop, ty2, ty3, ty4, ty5, ty9, ty12, ty21, ty22, ty23, ty35, ty38, ty44, ty47, ty51, ty62, ty63, ty66, ty91, ty95, ty102, eqT, cellInts, bld, partOk, regS_ite, pickAV_bool, nn1, tn1, nz1, nz1', lt1, sub, slotsLe, rngS_normal, rngS_exit, rngS_ret, Bool.cond_true, Bool.cond_false, ints, intss, int, bool, row, frac, fracs, ← List.map_take, ← List.map_drop, mSzIss_at, mToIss_at, mToIs_at, mHasOuter_at, mEqIss_at, mEqIs_at, g1]
  have b1 : x1.length ≤ 2 ^ 40 := by omega
  have l0 := lens_intss.1 hlens.1
  have z0 := mSzIss_at n0 x0 (1048576) (by omega) (fun x hx => by have := (l0.2 x hx).1; omega) (by omega) (by omega)
  by_cases h0 : (1048576 : Int) < (need x0 : Int)
  · simp [h0] at z0
    simp [Try.f13, awp_skip, awp_seq, awp_block, awp_exit, awp_ret, awp_loop, awp_region, awp_cond, contS_normal, contS_exit, contS_ret, inB_normal, inB_exit, inB_ret, loopS_normal, loopS_exit, loopS_ret, doneS_normal, doneS_ret, regS_some, condS_bool, bindS_some, rrun_nil, rrun_cons, outD_some, stepG_some, rstep_eq, callOut_some, callV_fn, aop_call, take_map_all, guardOk, aop, ev, putD, ofV, ofV1, Value.oneCell', asNat, abin, aun, pickAV, scal, frz, TypeDesc.aggB, AV.cells, lenAV, getAt, loadCell, loadCells, res, resL, intern, internL, putCells, ownR, ownRL, drops, flat, kill, killL, killN, killNL, clean, keep, refsL, refs, once, place, renL, ren, ctx, G, resOk, resVars, resVar, ownR, ownRL, pack, viewEs, bndOf, appX, appY, List.range, List.range.loop, ty2, ty3, ty4, ty5, ty9, ty12, ty21, ty22, ty23, ty35, ty38, ty44, ty47, ty51, ty62, ty63, ty66, ty91, ty95, ty102, eqT, cellInts, bld, partOk, regS_ite, pickAV_bool, nn1, tn1, nz1, nz1', lt1, sub, slotsLe, rngS_normal, rngS_exit, rngS_ret, Bool.cond_true, Bool.cond_false, ints, intss, int, bool, row, frac, fracs, ← List.map_take, ← List.map_drop, g1, z0]
  have t0 : ¬ ((1048576 : Int) - (need x0 : Int)) < 0 := by omega
  have s0 := need_small (xss := x0) (by omega)
  have o0 := own_small s0
  simp [h0] at z0
  simp [Try.f13, awp_skip, awp_seq, awp_block, awp_exit, awp_ret, awp_loop, awp_region, awp_cond, contS_normal, contS_exit, contS_ret, inB_normal, inB_exit, inB_ret, loopS_normal, loopS_exit, loopS_ret, doneS_normal, doneS_ret, regS_some, condS_bool, bindS_some, rrun_nil, rrun_cons, outD_some, stepG_some, rstep_eq, callOut_some, callV_fn, aop_call, take_map_all, guardOk, aop, ev, putD, ofV, ofV1, Value.oneCell', asNat, abin, aun, pickAV, scal, frz, TypeDesc.aggB, AV.cells, lenAV, getAt, loadCell, loadCells, res, resL, intern, internL, putCells, ownR, ownRL, drops, flat, kill, killL, killN, killNL, clean, keep, refsL, refs, once, place, renL, ren, ctx, G, resOk, resVars, resVar, ownR, ownRL, pack, viewEs, bndOf, appX, appY, List.range, List.range.loop, ty2, ty3, ty4, ty5, ty9, ty12, ty21, ty22, ty23, ty35, ty38, ty44, ty47, ty51, ty62, ty63, ty66, ty91, ty95, ty102, eqT, cellInts, bld, partOk, regS_ite, pickAV_bool, nn1, tn1, nz1, nz1', lt1, sub, slotsLe, rngS_normal, rngS_exit, rngS_ret, Bool.cond_true, Bool.cond_false, ints, intss, int, bool, row, frac, fracs, ← List.map_take, ← List.map_drop, g1, z0, t0, b1, s0, o0, mToIs_at, mEqIs_at, mToIss_at, mEqIss_at, mHasOuter_at]

end Go.Proofs.Ytjfkpgejgfanbaa.Ax
