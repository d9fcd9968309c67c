/-
  FnExactSecondPrice: for every list of bids the two programs answer alike and the argument reads as it did. No condition.
-/
import Derived.Test.YtpeajmejggnpbaaF15
namespace Go.Proofs.Ytpeajmejggnpbaa.Ax
open Go Go.RowKit
set_option linter.unusedSimpArgs false

theorem priceOf_tup (xs : List Int) : ∃ a b, priceOf xs = .tup [.v (.int .i64 a), .v (.int .i64 b)] := by
  unfold priceOf
  split
  · exact ⟨_, _, rfl⟩
  · exact ⟨_, _, rfl⟩

set_option maxHeartbeats 1000000 in
theorem law_SecondPrice (nl : Bool) (xs : List Int) : CallOk Try.prog 4 [ints nl xs] (bool true) := by
  have hG : FnsOk Try.prog [(15, mToIs), (14, mSecond), (16, mSecond), (17, mEqIs)] :=
    .cons toIntS_ok (.cons specSecondPrice_ok (.cons implSecondPrice_ok (.cons eqIntS_ok .nil)))
  refine callOk_of_awp (ctx_ok eqOk hG) mixed (live := [true, false, true, true, true, true, true, true, false, false, true, false, false, false, false, false, false, false, false, false, false, false, false, false, false, false, false, false, false, false, false, true, false, false, false, false, true]) Try.func4 rfl (by kernel_rfl) (by kernel_rfl) fun w0 => ?_
  by_cases h : 1048576 < xs.length
  · have h' : (1048576 : Int) < xs.length := by omega
    simp [Try.f4, awp_skip, awp_seq, awp_block, awp_exit, awp_ret, awp_loop, awp_region, awp_cond, contS_normal, contS_exit, contS_ret, inB_normal, inB_exit, inB_ret, loopS_normal, loopS_exit, loopS_ret, doneS_normal, doneS_ret, regS_some, condS_bool, bindS_some, rrun_nil, rrun_cons, outD_some, stepG_some, rstep_eq, callOut_some, callV_fn, aop_call, take_map_all, guardOk, aop, ev, putD, ofV, ofV1, Value.oneCell', asNat, abin, aun, pickAV, scal, frz, TypeDesc.aggB, AV.cells, lenAV, getAt, loadCell, loadCells, res, resL, intern, internL, putCells, ownR, ownRL, drops, flat, kill, killL, killN, killNL, clean, keep, refsL, refs, once, place, renL, ren, ctx, G, resOk, resVars, resVar, ownR, ownRL, pack, viewEs, bndOf, appX, appY, List.range, List.range.loop, tInt, tBool, tInts, tIntss, tFrac, tLFrac, tFracs, tLFracs, eqT, cellInts, bld, partOk, ints, bool, h, h']
  · have h' : ¬ (1048576 : Int) < xs.length := by omega
    have hs : xs.length ≤ 2 ^ 40 := by omega
    obtain ⟨a, b, hab⟩ := priceOf_tup xs
    have hm := mSecond_at false xs hs
    rw [hab] at hm
    simp [Try.f4, awp_skip, awp_seq, awp_block, awp_exit, awp_ret, awp_loop, awp_region, awp_cond, contS_normal, contS_exit, contS_ret, inB_normal, inB_exit, inB_ret, loopS_normal, loopS_exit, loopS_ret, doneS_normal, doneS_ret, regS_some, condS_bool, bindS_some, rrun_nil, rrun_cons, outD_some, stepG_some, rstep_eq, callOut_some, callV_fn, aop_call, take_map_all, guardOk, aop, ev, putD, ofV, ofV1, Value.oneCell', asNat, abin, aun, pickAV, scal, frz, TypeDesc.aggB, AV.cells, lenAV, getAt, loadCell, loadCells, res, resL, intern, internL, putCells, ownR, ownRL, drops, flat, kill, killL, killN, killNL, clean, keep, refsL, refs, once, place, renL, ren, ctx, G, resOk, resVars, resVar, ownR, ownRL, pack, viewEs, bndOf, appX, appY, List.range, List.range.loop, tInt, tBool, tInts, tIntss, tFrac, tLFrac, tFracs, tLFracs, eqT, cellInts, bld, partOk, ints, bool, h, h', mToIs_at nl xs hs, hm, mEqIs_at false false xs xs hs hs]

end Go.Proofs.Ytpeajmejggnpbaa.Ax
