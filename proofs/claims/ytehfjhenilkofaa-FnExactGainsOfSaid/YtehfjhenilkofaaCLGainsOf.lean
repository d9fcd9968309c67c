/-
  FnExactGainsOf: the two programs answer alike and the arguments read as they did. No condition.
-/
import Derived.Test.YtehfjhenilkofaaCG37
import Derived.Test.YtehfjhenilkofaaCG38
namespace Go.Proofs.Ytehfjhenilkofaa.Ax
open Go Go.RowKit
set_option linter.unusedSimpArgs false

theorem gainsL_len {xss : List (Bool × List Int)} {l : List Int} {fs : List (Int × Int)} : (gainsL xss l fs).length ≤ 2 ^ 40 := by
  unfold gainsL
  split
  · rename_i h
    simp only [gainsB, rentsB, Bool.and_eq_true] at h
    have := rank_facts h.1.1.1.2
    rw [gainA_len]; omega
  · simp

set_option maxRecDepth 4000 in
set_option maxHeartbeats 2000000 in
theorem law_GainsOf (n0 : Bool) (x0 : List (Bool × List Int)) (n1 : Bool) (x1 : List Int) (n2 : Bool) (x2 : List (Int × Int)) : CallOk Try.prog 7 [intss n0 x0, ints n1 x1, fracs n2 x2] (bool true) := by
  have hG : FnsOk Try.prog [(15, mSzIss), (16, mSzF), (18, mToIss), (24, mToIs), (19, mToFs), (32, mGains), (33, mGains), (22, mEqFs), (21, mEqIss), (26, mEqIs), (37, mHeldF)] := (.cons szIntSS_ok (.cons szFractionS_ok (.cons toIntSS_ok (.cons toIntS_ok (.cons toFractionS_ok (.cons specGains_ok (.cons implGains_ok (.cons eqFractionS_ok (.cons eqIntSS_ok (.cons eqIntS_ok (.cons heldFractionS_ok .nil)))))))))))
  have hM : FnsMut Try.prog [(34, mMarkII), (35, mMarkI), (36, mMarkF)] := (.cons markIntSS_ok (.cons markIntS_ok (.cons markFractionS_ok .nil)))
  refine callOk_awp (ctxM_ok eqOk hG hM) mixed (live := [true, true, true, false, false, false, true, true, true, true, true, true, true, true, true, true, true, true, true, true, false, false, true, false, false, false, false, true, false, false, false, false, true, false, false, false, false, false, false, false, false, false, false, false, false, false, false, false, false, false, false, false, false, false, false, false, false, false, false, false, false, false, false, false, true, false, false, false, false, true, false, false, false, false, true, false, false, false, false, true, false, false, false, false, false, false, false, false, false, false, false, false, false, false, false, false, false, false, false, false, false, true, false, false, false, false, false, false, false, true, false, false, true, false, false, false, false, false, false, false, false, false, false, false, false, false, false, false, false, false, false, true, false, false, false, false, true, false, false, true]) (dt := []) Try.func7 rfl (by kernel_rfl) (by kernel_rfl) fun w0 hlens => ?_
  by_cases g1 : (1048576 : Int) < x1.length
  · simp [Try.f7, awp_skip, awp_seq, awp_block, awp_exit, awp_ret, awp_loop, awp_region, awp_cond, contS_normal, contS_exit, contS_ret, inB_normal, inB_exit, inB_ret, loopS_normal, loopS_exit, loopS_ret, doneS_normal, doneS_ret, regS_some, condS_bool, bindS_some, rrun_nil, rrun_cons, outD_some, stepG_some, rstep_eq, callOut_some, callOut_none, mutCall_none, movCall_none, alt_none, alt_some, regrun_false, regrun_true, noLd_dt, mkLd_dt, dtGet, rdraw_eq, rrunD_nil, rrunD_cons, contD_eq, rstepD_eq, outDr_some, outC_zero, outC_succ, needs, chk, stR, opR, jk, jkL, meets, shf, nums, sets, Op.operands, Call.operands, noM_mk, callV_fn, aop_call, take_map_all, guardOk, aop, ev, putD, ofV, ofV1, Value.oneCell', asNat, abin, aun, pickAV, scal, frz, TypeDesc.aggB, AV.cells, lenAV, getAt, loadCell, loadCells, res, resL, intern, internL, putCells, ownR, ownRL, ownV, drops, flat, kill, killL, killN, killNL, clean, keep, refsL, refs, once, place, renL, ren, ctx, G, resOk, resVars, resVar, ownR, ownRL, pack, viewEs, bndOf, appX, appY, List.range, List.range.loop, ty2, ty3, ty4, ty5, ty9, ty12, ty21, ty22, ty23, ty28, ty33, ty38, ty39, ty49, ty52, ty64, ty80, ty93, ty103, ty107, ty110, ty116, ty126, eqT, cellInts, bld, partOk, regS_ite, pickAV_bool, nn1, tn1, nz1, nz1', lt1, sub, slotsLe, rngS_normal, rngS_exit, rngS_ret, Bool.cond_true, Bool.cond_false, ints, intss, int, bool, row, frac, fracs, ← List.map_take, ← List.map_drop, ctxM, GM, mutCall, setAt, setCell, resM, doneM_normal, doneM_ret, List.eraseIdx, g1]
  have b1 : x1.length ≤ 2 ^ 40 := by omega
  have l0 := lens_intss.1 hlens.1
  have z0 := mSzIss_at n0 x0 (1048576) (by omega) (fun x hx => by have := (l0.2 x hx).1; omega) (by omega) (by omega)
  by_cases h0 : (1048576 : Int) < (need x0 : Int)
  · simp [h0] at z0
    simp [Try.f7, awp_skip, awp_seq, awp_block, awp_exit, awp_ret, awp_loop, awp_region, awp_cond, contS_normal, contS_exit, contS_ret, inB_normal, inB_exit, inB_ret, loopS_normal, loopS_exit, loopS_ret, doneS_normal, doneS_ret, regS_some, condS_bool, bindS_some, rrun_nil, rrun_cons, outD_some, stepG_some, rstep_eq, callOut_some, callOut_none, mutCall_none, movCall_none, alt_none, alt_some, regrun_false, regrun_true, noLd_dt, mkLd_dt, dtGet, rdraw_eq, rrunD_nil, rrunD_cons, contD_eq, rstepD_eq, outDr_some, outC_zero, outC_succ, needs, chk, stR, opR, jk, jkL, meets, shf, nums, sets, Op.operands, Call.operands, noM_mk, callV_fn, aop_call, take_map_all, guardOk, aop, ev, putD, ofV, ofV1, Value.oneCell', asNat, abin, aun, pickAV, scal, frz, TypeDesc.aggB, AV.cells, lenAV, getAt, loadCell, loadCells, res, resL, intern, internL, putCells, ownR, ownRL, ownV, drops, flat, kill, killL, killN, killNL, clean, keep, refsL, refs, once, place, renL, ren, ctx, G, resOk, resVars, resVar, ownR, ownRL, pack, viewEs, bndOf, appX, appY, List.range, List.range.loop, ty2, ty3, ty4, ty5, ty9, ty12, ty21, ty22, ty23, ty28, ty33, ty38, ty39, ty49, ty52, ty64, ty80, ty93, ty103, ty107, ty110, ty116, ty126, eqT, cellInts, bld, partOk, regS_ite, pickAV_bool, nn1, tn1, nz1, nz1', lt1, sub, slotsLe, rngS_normal, rngS_exit, rngS_ret, Bool.cond_true, Bool.cond_false, ints, intss, int, bool, row, frac, fracs, ← List.map_take, ← List.map_drop, ctxM, GM, mutCall, setAt, setCell, resM, doneM_normal, doneM_ret, List.eraseIdx, g1, z0]
  have t0 : ¬ ((1048576 : Int) - (need x0 : Int)) < 0 := by omega
  have s0 := need_small (xss := x0) (by omega)
  have o0 := own_small s0
  simp [h0] at z0
  have l2 := lens_fracs.1 hlens.2.2.1
  have z2 := mSzF_at n2 x2 (1048576 - (need x0 : Int)) (by omega) (by omega) (by omega)
  by_cases h2 : (1048576 - (need x0 : Int) : Int) < (x2.length : Int)
  · simp [h2] at z2
    simp [Try.f7, awp_skip, awp_seq, awp_block, awp_exit, awp_ret, awp_loop, awp_region, awp_cond, contS_normal, contS_exit, contS_ret, inB_normal, inB_exit, inB_ret, loopS_normal, loopS_exit, loopS_ret, doneS_normal, doneS_ret, regS_some, condS_bool, bindS_some, rrun_nil, rrun_cons, outD_some, stepG_some, rstep_eq, callOut_some, callOut_none, mutCall_none, movCall_none, alt_none, alt_some, regrun_false, regrun_true, noLd_dt, mkLd_dt, dtGet, rdraw_eq, rrunD_nil, rrunD_cons, contD_eq, rstepD_eq, outDr_some, outC_zero, outC_succ, needs, chk, stR, opR, jk, jkL, meets, shf, nums, sets, Op.operands, Call.operands, noM_mk, callV_fn, aop_call, take_map_all, guardOk, aop, ev, putD, ofV, ofV1, Value.oneCell', asNat, abin, aun, pickAV, scal, frz, TypeDesc.aggB, AV.cells, lenAV, getAt, loadCell, loadCells, res, resL, intern, internL, putCells, ownR, ownRL, ownV, drops, flat, kill, killL, killN, killNL, clean, keep, refsL, refs, once, place, renL, ren, ctx, G, resOk, resVars, resVar, ownR, ownRL, pack, viewEs, bndOf, appX, appY, List.range, List.range.loop, ty2, ty3, ty4, ty5, ty9, ty12, ty21, ty22, ty23, ty28, ty33, ty38, ty39, ty49, ty52, ty64, ty80, ty93, ty103, ty107, ty110, ty116, ty126, eqT, cellInts, bld, partOk, regS_ite, pickAV_bool, nn1, tn1, nz1, nz1', lt1, sub, slotsLe, rngS_normal, rngS_exit, rngS_ret, Bool.cond_true, Bool.cond_false, ints, intss, int, bool, row, frac, fracs, ← List.map_take, ← List.map_drop, ctxM, GM, mutCall, setAt, setCell, resM, doneM_normal, doneM_ret, List.eraseIdx, g1, z0, t0, z2]
  have t2 : ¬ ((1048576 - (need x0 : Int) : Int) - (x2.length : Int)) < 0 := by omega
  have b2 : x2.length ≤ 2 ^ 40 := by omega
  simp [h2] at z2
  have mo0 := need_own (xss := x0)
  have mr0 : (rowSum (own x0) (own x0).length : Int) ≤ need (own x0) := by simp only [need]; omega
  have mk0 := mMarkII_at false (own x0) (1) ⟨by omega, by omega⟩
  have mk1 := mMarkI_at false x1 (1 + (rowSum (own x0) (own x0).length : Int)) ⟨by omega, by omega⟩
  have mk2 := mMarkF_at false x2 (1 + (rowSum (own x0) (own x0).length : Int) + (x1.length : Int)) ⟨by omega, by omega⟩
  have nk : ¬ (1 + (rowSum (own x0) (own x0).length : Int) + (x1.length : Int) + 2 * (x2.length : Int) < 0) := by omega
  have hres := mGains_at false (own x0) false x1 false x2
  have hlr := gainsL_len (xss := own x0) (l := x1) (fs := x2)
  generalize hgb : gainsB (own x0) x1 x2 = gb at hres
  generalize (!gb) = gn at hres
  generalize gainsL (own x0) x1 x2 = g2 at hres hlr
  obtain ⟨g, rfl, rfl⟩ : ∃ g : Bool × List (Int × Int), g.1 = gn ∧ g.2 = g2 := ⟨(gn, g2), rfl, rfl⟩
  have mkg := mMarkF_at g.1 g.2 1 ⟨by omega, by omega⟩
  have hdg := mHeldF_at g.1 g.2.length 1 ⟨by omega, by omega⟩
  have ng : ¬ (1 + 2 * (g.2.length : Int) < 0) := by omega
  simp (config := {maxSteps := 1000000}) [Try.f7, awp_skip, awp_seq, awp_block, awp_exit, awp_ret, awp_loop, awp_region, awp_cond, contS_normal, contS_exit, contS_ret, inB_normal, inB_exit, inB_ret, loopS_normal, loopS_exit, loopS_ret, doneS_normal, doneS_ret, regS_some, condS_bool, bindS_some, rrun_nil, rrun_cons, outD_some, stepG_some, rstep_eq, callOut_some, callOut_none, mutCall_none, movCall_none, alt_none, alt_some, regrun_false, regrun_true, noLd_dt, mkLd_dt, dtGet, rdraw_eq, rrunD_nil, rrunD_cons, contD_eq, rstepD_eq, outDr_some, outC_zero, outC_succ, needs, chk, stR, opR, jk, jkL, meets, shf, nums, sets, Op.operands, Call.operands, noM_mk, callV_fn, aop_call, take_map_all, guardOk, aop, ev, putD, ofV, ofV1, Value.oneCell', asNat, abin, aun, pickAV, scal, frz, TypeDesc.aggB, AV.cells, lenAV, getAt, loadCell, loadCells, res, resL, intern, internL, putCells, ownR, ownRL, ownV, drops, flat, kill, killL, killN, killNL, clean, keep, refsL, refs, once, place, renL, ren, ctx, G, resOk, resVars, resVar, ownR, ownRL, pack, viewEs, bndOf, appX, appY, List.range, List.range.loop, ty2, ty3, ty4, ty5, ty9, ty12, ty21, ty22, ty23, ty28, ty33, ty38, ty39, ty49, ty52, ty64, ty80, ty93, ty103, ty107, ty110, ty116, ty126, eqT, cellInts, bld, partOk, regS_ite, pickAV_bool, nn1, tn1, nz1, nz1', lt1, sub, slotsLe, rngS_normal, rngS_exit, rngS_ret, Bool.cond_true, Bool.cond_false, ints, intss, int, bool, row, frac, fracs, ← List.map_take, ← List.map_drop, ctxM, GM, mutCall, setAt, setCell, resM, doneM_normal, doneM_ret, List.eraseIdx, g1, z0, t0, z2, t2, b1, s0, o0, b2, mToIs_at, mEqIs_at, mToIss_at, mEqIss_at, mToFs_at, mEqFs_at, mk0, mk1, mk2, nk, ng, hres, mkg, hdg, mEqFs_at, hlr, mkd_len, mkRS_len, mkd_take, mkRS_take, mkdF_len, mkdF_take]

end Go.Proofs.Ytehfjhenilkofaa.Ax
