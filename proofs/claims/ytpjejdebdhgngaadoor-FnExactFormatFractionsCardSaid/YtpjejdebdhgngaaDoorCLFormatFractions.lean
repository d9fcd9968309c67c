/-
  FnExactFormatFractions: the two programs answer alike and the arguments read as they did. No condition.
-/
import Derived.Test.YtpjejdebdhgngaaDoorCG77
namespace Go.Proofs.YtpjejdebdhgngaaDoor.Ax
open Go Go.RowKit
set_option linter.unusedSimpArgs false

set_option maxHeartbeats 1000000 in
theorem law_FormatFractions (n0 : Bool) (x0 : List (Int × Int)) : CallOk Tryd.prog 5 [fracs n0 x0] (bool true) := by
  have hG : FnsOk Tryd.prog [(17, mSzF), (19, mToFs), (18, mFFs), (20, mFFs), (21, mEqFs)] := (.cons szFractionS_ok (.cons toFractionS_ok (.cons specFormatFractions_ok (.cons implFormatFractions_ok (.cons eqFractionS_ok .nil)))))
  refine callOk_awp (ctx_ok eqOk hG) mixed (live := [true, false, true, true, true, true, true, false, false, false, false, true, false, false, false, false, false, false, false, false, false, true, false, false, false, false, true]) (dt := []) Tryd.func5 rfl (by kernel_rfl) (by kernel_rfl) fun w0 hlens => ?_
  have l0 := lens_fracs.1 hlens.1
  have z0 := mSzF_at n0 x0 (1048576) (by omega) (by omega) (by omega)
  by_cases h0 : (1048576 : Int) < (x0.length : Int)
  · simp [h0] at z0
    simp [Tryd.f5, awp_skip, awp_seq, awp_block, awp_exit, awp_ret, awp_loop, awp_rangeF, awp_region, awp_cond, contS_normal, contS_exit, contS_ret, inB_normal, inB_exit, inB_ret, loopS_normal, loopS_exit, loopS_ret, doneS_normal, doneS_ret, regS_some, condS_bool, bindS_some, rrun_nil, rrun_cons, outD_some, stepG_some, rstep_eq, callOut_some, callOut_none, mutCall_none, movCall_none, frzCall_none, frzCall_some, alt_none, alt_some, regrun_false, regrun_true, noLd_dt, mkLd_dt, frzLd_dt, ldR_dt, dtGet, rdraw_eq, rrunD_nil, rrunD_cons, contD_eq, rstepD_eq, outDr_some, outC_zero, outC_succ, needs, chk, stR, opR, jk, jkL, meets, shf, nums, sets, Op.operands, Call.operands, noM_mk, callV_fn, aop_call, take_map_all, guardOk, aop, ev, putD, ofV, ofV1, Value.oneCell', asNat, abin, aun, pickAV, scal, frz, TypeDesc.aggB, AV.cells, lenAV, getAt, loadCell, loadCells, res, resL, intern, internL, putCells, ownR, ownRL, ownV, drops, flat, kill, killL, killN, killNL, clean, keep, refsL, refs, once, place, renL, ren, ctx, G, resOk, resVars, resVar, ownR, ownRL, pack, viewEs, bndOf, appX, appY, List.range, List.range.loop, ty2, ty3, ty4, ty5, ty9, ty12, ty21, ty22, ty27, ty33, ty36, ty40, ty43, ty47, ty51, ty52, ty55, ty59, ty71, ty72, ty75, ty86, ty96, ty97, ty106, ty111, ty112, ty113, ty120, ty121, ty124, ty133, eqT, cellInts, bld, partOk, nilAV, bytesOf, regS_ite, allS_map, allS_v, allS_rep, pickAV_bool, nn1, tn1, nz1, nz1', lt1, sub, slotsLe, rngS_normal, rngS_exit, rngS_ret, Bool.cond_true, Bool.cond_false, ints, intss, int, bool, row, frac, fracs, ← List.map_take, ← List.map_drop, z0]
  have t0 : ¬ ((1048576 : Int) - (x0.length : Int)) < 0 := by omega
  have b0 : x0.length ≤ 2 ^ 40 := by omega
  have hm := mFFs_at false x0 (by omega)
  simp [h0] at z0
  simp [Tryd.f5, awp_skip, awp_seq, awp_block, awp_exit, awp_ret, awp_loop, awp_rangeF, awp_region, awp_cond, contS_normal, contS_exit, contS_ret, inB_normal, inB_exit, inB_ret, loopS_normal, loopS_exit, loopS_ret, doneS_normal, doneS_ret, regS_some, condS_bool, bindS_some, rrun_nil, rrun_cons, outD_some, stepG_some, rstep_eq, callOut_some, callOut_none, mutCall_none, movCall_none, frzCall_none, frzCall_some, alt_none, alt_some, regrun_false, regrun_true, noLd_dt, mkLd_dt, frzLd_dt, ldR_dt, dtGet, rdraw_eq, rrunD_nil, rrunD_cons, contD_eq, rstepD_eq, outDr_some, outC_zero, outC_succ, needs, chk, stR, opR, jk, jkL, meets, shf, nums, sets, Op.operands, Call.operands, noM_mk, callV_fn, aop_call, take_map_all, guardOk, aop, ev, putD, ofV, ofV1, Value.oneCell', asNat, abin, aun, pickAV, scal, frz, TypeDesc.aggB, AV.cells, lenAV, getAt, loadCell, loadCells, res, resL, intern, internL, putCells, ownR, ownRL, ownV, drops, flat, kill, killL, killN, killNL, clean, keep, refsL, refs, once, place, renL, ren, ctx, G, resOk, resVars, resVar, ownR, ownRL, pack, viewEs, bndOf, appX, appY, List.range, List.range.loop, ty2, ty3, ty4, ty5, ty9, ty12, ty21, ty22, ty27, ty33, ty36, ty40, ty43, ty47, ty51, ty52, ty55, ty59, ty71, ty72, ty75, ty86, ty96, ty97, ty106, ty111, ty112, ty113, ty120, ty121, ty124, ty133, eqT, cellInts, bld, partOk, nilAV, bytesOf, regS_ite, allS_map, allS_v, allS_rep, pickAV_bool, nn1, tn1, nz1, nz1', lt1, sub, slotsLe, rngS_normal, rngS_exit, rngS_ret, Bool.cond_true, Bool.cond_false, ints, intss, int, bool, row, frac, fracs, ← List.map_take, ← List.map_drop, z0, t0, b0, mToFs_at, mEqFs_at, hm]

end Go.Proofs.YtpjejdebdhgngaaDoor.Ax
