/-
  FnExactBestRooms: the two programs answer alike and the arguments read as they did. No condition.
-/
import Derived.Test.YtbiefpodcenpoaaCG65
namespace Go.Proofs.Ytbiefpodcenpoaa.Ax
open Go Go.RowKit
set_option linter.unusedSimpArgs false

set_option maxHeartbeats 1000000 in
theorem law_BestRooms (n0 : Bool) (x0 : List (Bool × List Int)) : CallOk Try.prog 13 [intss n0 x0] (bool true) := by
  have hG : FnsOk Try.prog [(15, mSzIss), (18, mToIss), (47, mBestRooms), (48, mBestRooms), (25, mEqIs), (21, mEqIss), (28, mHeldI)] := (.cons szIntSS_ok (.cons toIntSS_ok (.cons specBestRooms_ok (.cons implBestRooms_ok (.cons eqIntS_ok (.cons eqIntSS_ok (.cons heldIntS_ok .nil)))))))
  have hM : FnsMut Try.prog [(26, mMarkII), (27, mMarkI)] := (.cons markIntSS_ok (.cons markIntS_ok .nil))
  refine callOk_awp (ctxM_ok eqOk hG hM) mixed (live := [true, false, true, true, true, true, true, true, true, true, true, false, false, false, false, true, false, false, false, false, false, false, false, false, false, false, true, false, false, false, false, true, false, false, false, false, false, false, false, false, false, false, true, false, false, false, false, false, false, false, true, false, false, true, false, false, false, false, false, false, true, false, false, false, false, true, false, false, true]) (dt := []) Try.func13 rfl (by kernel_rfl) (by kernel_rfl) fun w0 hlens => ?_
  have l0 := lens_intss.1 hlens.1
  have z0 := mSzIss_at n0 x0 (1048576) (by omega) (fun x hx => by have := (l0.2 x hx).1; omega) (by omega) (by omega)
  by_cases h0 : (1048576 : Int) < (need x0 : Int)
  · simp [h0] at z0
    simp [Try.f13, awp_skip, awp_seq, awp_block, awp_exit, awp_ret, awp_loop, awp_rangeF, awp_region, awp_cond, contS_normal, contS_exit, contS_ret, inB_normal, inB_exit, inB_ret, loopS_normal, loopS_exit, loopS_ret, doneS_normal, doneS_ret, regS_some, condS_bool, bindS_some, rrun_nil, rrun_cons, outD_some, stepG_some, rstep_eq, callOut_some, callOut_none, mutCall_none, movCall_none, frzCall_none, frzCall_some, alt_none, alt_some, regrun_false, regrun_true, noLd_dt, mkLd_dt, frzLd_dt, ldR_dt, dtGet, rdraw_eq, rrunD_nil, rrunD_cons, contD_eq, rstepD_eq, outDr_some, outC_zero, outC_succ, needs, chk, stR, opR, jk, jkL, meets, shf, nums, sets, Op.operands, Call.operands, noM_mk, callV_fn, aop_call, take_map_all, guardOk, aop, ev, putD, ofV, ofV1, Value.oneCell', asNat, abin, aun, pickAV, scal, frz, TypeDesc.aggB, AV.cells, lenAV, getAt, loadCell, loadCells, res, resL, intern, internL, putCells, ownR, ownRL, ownV, drops, flat, kill, killL, killN, killNL, clean, keep, refsL, refs, once, place, renL, ren, ctx, G, resOk, resVars, resVar, ownR, ownRL, pack, viewEs, bndOf, appX, appY, List.range, List.range.loop, ty2, ty3, ty4, ty5, ty9, ty12, ty21, ty22, ty23, ty28, ty33, ty44, ty50, ty61, ty72, ty73, ty83, ty89, ty106, ty110, ty113, ty119, ty129, eqT, cellInts, bld, partOk, nilAV, bytesOf, regS_ite, allS_map, allS_v, allS_rep, pickAV_bool, nn1, tn1, nz1, nz1', lt1, sub, slotsLe, rngS_normal, rngS_exit, rngS_ret, Bool.cond_true, Bool.cond_false, ints, intss, int, bool, row, frac, fracs, ← List.map_take, ← List.map_drop, ctxM, GM, mutCall, setAt, setCell, resM, doneM_normal, doneM_ret, List.eraseIdx, z0]
  have t0 : ¬ ((1048576 : Int) - (need x0 : Int)) < 0 := by omega
  have s0 := need_small (xss := x0) (by omega)
  have o0 := own_small s0
  simp [h0] at z0
  have mo0 := need_own (xss := x0)
  have mr0 : (rowSum (own x0) (own x0).length : Int) ≤ need (own x0) := by simp only [need]; omega
  have mk0 := mMarkII_at false (own x0) (1) ⟨by omega, by omega⟩
  have nk : ¬ (1 + (rowSum (own x0) (own x0).length : Int) < 0) := by omega
  have hres := brP_at false (own x0)
  have hlr := brP_len (xss := own x0)
  generalize brP (own x0) = g at hres hlr
  have mkg := mMarkI_at g.1 g.2 1 ⟨by omega, by omega⟩
  have hdg := mHeldI_at g.1 g.2.length 1 ⟨by omega, by omega⟩
  have ng : ¬ (1 + (g.2.length : Int) < 0) := by omega
  simp [Try.f13, awp_skip, awp_seq, awp_block, awp_exit, awp_ret, awp_loop, awp_rangeF, awp_region, awp_cond, contS_normal, contS_exit, contS_ret, inB_normal, inB_exit, inB_ret, loopS_normal, loopS_exit, loopS_ret, doneS_normal, doneS_ret, regS_some, condS_bool, bindS_some, rrun_nil, rrun_cons, outD_some, stepG_some, rstep_eq, callOut_some, callOut_none, mutCall_none, movCall_none, frzCall_none, frzCall_some, alt_none, alt_some, regrun_false, regrun_true, noLd_dt, mkLd_dt, frzLd_dt, ldR_dt, dtGet, rdraw_eq, rrunD_nil, rrunD_cons, contD_eq, rstepD_eq, outDr_some, outC_zero, outC_succ, needs, chk, stR, opR, jk, jkL, meets, shf, nums, sets, Op.operands, Call.operands, noM_mk, callV_fn, aop_call, take_map_all, guardOk, aop, ev, putD, ofV, ofV1, Value.oneCell', asNat, abin, aun, pickAV, scal, frz, TypeDesc.aggB, AV.cells, lenAV, getAt, loadCell, loadCells, res, resL, intern, internL, putCells, ownR, ownRL, ownV, drops, flat, kill, killL, killN, killNL, clean, keep, refsL, refs, once, place, renL, ren, ctx, G, resOk, resVars, resVar, ownR, ownRL, pack, viewEs, bndOf, appX, appY, List.range, List.range.loop, ty2, ty3, ty4, ty5, ty9, ty12, ty21, ty22, ty23, ty28, ty33, ty44, ty50, ty61, ty72, ty73, ty83, ty89, ty106, ty110, ty113, ty119, ty129, eqT, cellInts, bld, partOk, nilAV, bytesOf, regS_ite, allS_map, allS_v, allS_rep, pickAV_bool, nn1, tn1, nz1, nz1', lt1, sub, slotsLe, rngS_normal, rngS_exit, rngS_ret, Bool.cond_true, Bool.cond_false, ints, intss, int, bool, row, frac, fracs, ← List.map_take, ← List.map_drop, ctxM, GM, mutCall, setAt, setCell, resM, doneM_normal, doneM_ret, List.eraseIdx, z0, t0, s0, o0, mToIss_at, mEqIss_at, mk0, nk, ng, hres, mkg, hdg, mEqIs_at, hlr, mkd_len, mkRS_len, mkd_take, mkRS_take]

end Go.Proofs.Ytbiefpodcenpoaa.Ax
