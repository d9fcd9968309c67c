/-
  FnExactStripWorth: for every list of lists the two programs answer alike and the argument reads as it did. No condition.
-/
import Derived.Test.YtpeajmejggnpbaaF11
namespace Go.Proofs.Ytpeajmejggnpbaa.Ax
open Go Go.RowKit
set_option linter.unusedSimpArgs false

set_option maxHeartbeats 1000000 in
theorem law_StripWorth (nl : Bool) (xss : List (Bool × List Int)) (hpre : xss.length < 2 ^ 63) (hr : ∀ x ∈ xss, x.2.length < 2 ^ 63) (x1 : Int) (x2 : Int) (x3 : Int) : CallOk Try.prog 8 [intss nl xss, int x1, int x2, int x3] (bool true) := by
  have hG : FnsOk Try.prog [(18, mSzIss), (20, mToIss), (27, mStrip), (28, mStrip), (22, mEqIss)] :=
    .cons szIntSS_ok (.cons toIntSS_ok (.cons specStripWorth_ok (.cons implStripWorth_ok (.cons eqIntSS_ok .nil))))
  refine callOk_of_awp (ctx_ok eqOk hG) mixed (live := [true, true, true, true, false, false, false, false, true, true, true, true, true, false, false, false, false, true, false, false, false, false, false, false, false, false, false, false, false, false, false, false, false, true, false, false, false, false, true]) Try.func8 rfl (by kernel_rfl) (by kernel_rfl) fun w0 => ?_
  have hz := mSzIss_at nl xss 1048576 hpre hr (by omega) (by omega)
  by_cases h : (1048576 : Int) < need xss
  · simp [h] at hz
    simp [Try.f8, awp_skip, awp_seq, awp_block, awp_exit, awp_ret, awp_loop, awp_region, awp_cond, contS_normal, contS_exit, contS_ret, inB_normal, inB_exit, inB_ret, loopS_normal, loopS_exit, loopS_ret, doneS_normal, doneS_ret, regS_some, condS_bool, bindS_some, rrun_nil, rrun_cons, outD_some, stepG_some, rstep_eq, callOut_some, callV_fn, aop_call, take_map_all, guardOk, aop, ev, putD, ofV, ofV1, Value.oneCell', asNat, abin, aun, pickAV, scal, frz, TypeDesc.aggB, AV.cells, lenAV, getAt, loadCell, loadCells, res, resL, intern, internL, putCells, ownR, ownRL, drops, flat, kill, killL, killN, killNL, clean, keep, refsL, refs, once, place, renL, ren, ctx, G, resOk, resVars, resVar, ownR, ownRL, pack, viewEs, bndOf, tInt, tBool, tInts, tIntss, tFrac, tLFrac, tFracs, tLFracs, eqT, cellInts, bld, partOk, intss, hz, bool, int]
  · have hlt : ¬ (1048576 - (need xss : Int)) < 0 := by omega
    have hs := need_small (xss := xss) (by omega)
    have ho := own_small hs
    simp [h] at hz
    simp [Try.f8, awp_skip, awp_seq, awp_block, awp_exit, awp_ret, awp_loop, awp_region, awp_cond, contS_normal, contS_exit, contS_ret, inB_normal, inB_exit, inB_ret, loopS_normal, loopS_exit, loopS_ret, doneS_normal, doneS_ret, regS_some, condS_bool, bindS_some, rrun_nil, rrun_cons, outD_some, stepG_some, rstep_eq, callOut_some, callV_fn, aop_call, take_map_all, guardOk, aop, ev, putD, ofV, ofV1, Value.oneCell', asNat, abin, aun, pickAV, scal, frz, TypeDesc.aggB, AV.cells, lenAV, getAt, loadCell, loadCells, res, resL, intern, internL, putCells, ownR, ownRL, drops, flat, kill, killL, killN, killNL, clean, keep, refsL, refs, once, place, renL, ren, ctx, G, resOk, resVars, resVar, ownR, ownRL, pack, viewEs, bndOf, tInt, tBool, tInts, tIntss, tFrac, tLFrac, tFracs, tLFracs, eqT, cellInts, bld, partOk, intss, hz, bool, int, hlt, mToIss_at nl xss hs, mStrip_at false (own xss) x1 x2 x3 ho, mEqIss_at false false (own xss) (own xss) ho ho]

end Go.Proofs.Ytpeajmejggnpbaa.Ax
