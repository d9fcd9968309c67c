/-
  FnExactFormatTable: the two programs answer alike and the arguments read as they did. No condition.
-/
import Derived.Test.YtpjejdebdhgngaaDoorCG75
namespace Go.Proofs.YtpjejdebdhgngaaDoor.Ax
open Go Go.RowKit
set_option linter.unusedSimpArgs false

set_option maxHeartbeats 1000000 in
theorem law_FormatTable (n0 : Bool) (x0 : List (Bool × List Int)) (hx : ∀ r ∈ x0, ∀ n ∈ r.2, inI n) : CallOk Tryd.prog 4 [intss n0 x0] (bool true) := by
  have hG : FnsOk Tryd.prog [(12, mSzIss), (14, mToIss), (13, mFTab), (15, mFTab), (16, mEqIss)] := (.cons szIntSS_ok (.cons toIntSS_ok (.cons specFormatTable_ok (.cons implFormatTable_ok (.cons eqIntSS_ok .nil)))))
  refine callOk_awp (ctx_ok eqOk hG) mixed (live := [true, false, true, true, true, true, true, false, false, false, false, true, false, false, false, false, false, false, false, false, false, true, false, false, false, false, true]) (dt := []) Tryd.func4 rfl (by kernel_rfl) (by kernel_rfl) fun w0 hlens => ?_
  have l0 := lens_intss.1 hlens.1
  have z0 := mSzIss_at n0 x0 (1048576) (by omega) (fun x hx => by have := (l0.2 x hx).1; omega) (by omega) (by omega)
  by_cases h0 : (1048576 : Int) < (need x0 : Int)
  · simp [h0] at z0
    simp [Tryd.f4, awp_skip, awp_seq, awp_block, awp_exit, awp_ret, awp_loop, awp_rangeF, awp_region, awp_cond, contS_normal, contS_exit, contS_ret, inB_normal, inB_exit, inB_ret, loopS_normal, loopS_exit, loopS_ret, doneS_normal, doneS_ret, regS_some, condS_bool, bindS_some, rrun_nil, rrun_cons, outD_some, stepG_some, rstep_eq, callOut_some, callOut_none, mutCall_none, movCall_none, frzCall_none, frzCall_some, alt_none, alt_some, regrun_false, regrun_true, noLd_dt, mkLd_dt, frzLd_dt, ldR_dt, dtGet, rdraw_eq, rrunD_nil, rrunD_cons, contD_eq, rstepD_eq, outDr_some, outC_zero, outC_succ, needs, chk, stR, opR, jk, jkL, meets, shf, nums, sets, Op.operands, Call.operands, noM_mk, callV_fn, aop_call, take_map_all, guardOk, aop, ev, putD, ofV, ofV1, Value.oneCell', asNat, abin, aun, pickAV, scal, frz, TypeDesc.aggB, AV.cells, lenAV, getAt, loadCell, loadCells, res, resL, intern, internL, putCells, ownR, ownRL, ownV, drops, flat, kill, killL, killN, killNL, clean, keep, refsL, refs, once, place, renL, ren, ctx, G, resOk, resVars, resVar, ownR, ownRL, pack, viewEs, bndOf, appX, appY, List.range, List.range.loop, ty2, ty3, ty4, ty5, ty9, ty12, ty21, ty22, ty27, ty33, ty36, ty40, ty43, ty47, ty51, ty52, ty55, ty59, ty71, ty72, ty75, ty86, ty96, ty97, ty106, ty111, ty112, ty113, ty120, ty121, ty124, ty133, eqT, cellInts, bld, partOk, nilAV, bytesOf, regS_ite, allS_map, allS_v, allS_rep, pickAV_bool, nn1, tn1, nz1, nz1', lt1, sub, slotsLe, rngS_normal, rngS_exit, rngS_ret, Bool.cond_true, Bool.cond_false, ints, intss, int, bool, row, frac, fracs, ← List.map_take, ← List.map_drop, z0]
  have t0 : ¬ ((1048576 : Int) - (need x0 : Int)) < 0 := by omega
  have s0 := need_small (xss := x0) (by omega)
  have o0 := own_small s0
  have hm := mFTab_at false (own x0) (tab_own (by omega) hx)
  simp [h0] at z0
  simp [Tryd.f4, awp_skip, awp_seq, awp_block, awp_exit, awp_ret, awp_loop, awp_rangeF, awp_region, awp_cond, contS_normal, contS_exit, contS_ret, inB_normal, inB_exit, inB_ret, loopS_normal, loopS_exit, loopS_ret, doneS_normal, doneS_ret, regS_some, condS_bool, bindS_some, rrun_nil, rrun_cons, outD_some, stepG_some, rstep_eq, callOut_some, callOut_none, mutCall_none, movCall_none, frzCall_none, frzCall_some, alt_none, alt_some, regrun_false, regrun_true, noLd_dt, mkLd_dt, frzLd_dt, ldR_dt, dtGet, rdraw_eq, rrunD_nil, rrunD_cons, contD_eq, rstepD_eq, outDr_some, outC_zero, outC_succ, needs, chk, stR, opR, jk, jkL, meets, shf, nums, sets, Op.operands, Call.operands, noM_mk, callV_fn, aop_call, take_map_all, guardOk, aop, ev, putD, ofV, ofV1, Value.oneCell', asNat, abin, aun, pickAV, scal, frz, TypeDesc.aggB, AV.cells, lenAV, getAt, loadCell, loadCells, res, resL, intern, internL, putCells, ownR, ownRL, ownV, drops, flat, kill, killL, killN, killNL, clean, keep, refsL, refs, once, place, renL, ren, ctx, G, resOk, resVars, resVar, ownR, ownRL, pack, viewEs, bndOf, appX, appY, List.range, List.range.loop, ty2, ty3, ty4, ty5, ty9, ty12, ty21, ty22, ty27, ty33, ty36, ty40, ty43, ty47, ty51, ty52, ty55, ty59, ty71, ty72, ty75, ty86, ty96, ty97, ty106, ty111, ty112, ty113, ty120, ty121, ty124, ty133, eqT, cellInts, bld, partOk, nilAV, bytesOf, regS_ite, allS_map, allS_v, allS_rep, pickAV_bool, nn1, tn1, nz1, nz1', lt1, sub, slotsLe, rngS_normal, rngS_exit, rngS_ret, Bool.cond_true, Bool.cond_false, ints, intss, int, bool, row, frac, fracs, ← List.map_take, ← List.map_drop, z0, t0, s0, o0, mToIss_at, mEqIss_at, hm]

end Go.Proofs.YtpjejdebdhgngaaDoor.Ax
