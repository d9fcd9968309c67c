/-
  Contract of the reference's SecondPrice. No condition.
-/
import Derived.Test.YtpeajmejggnpbaaF14
import Derived.Test.YtpeajmejggnpbaaF8
namespace Go.Proofs.Ytpeajmejggnpbaa.Ax
open Go Go.RowKit
set_option linter.unusedSimpArgs false

set_option maxHeartbeats 4000000 in
theorem specSecondPrice_ok : FnOk Try.prog 14 mSecond := by
  refine mk_ok fun ⟨nl, xs⟩ hp => ?_
  simp only at hp
  have hG : FnsOk Try.prog [(34, mWithin), (35, mBest)] := .cons l01In_ok (.cons l05Best_ok .nil)
  refine callOk_of_awp (ctx_ok eqOk hG) mixed (live := [true, false, true, true, false, true, true, true, true, true, false, false, false, true, true, true, true, true, false, false, false, false, true, false, false, false, false, false, true, true, true, true, false, false, false, false, false, true]) Try.func14 rfl (by kernel_rfl) (by kernel_rfl) fun w0 => ?_
  have hg := mBest_at nl xs hp
  cases h1 : inR 1 8 xs.length with
  | false =>
    have hw : mWithin [.v (.int .i64 (xs.length : Int)), .v (.int .i64 1), .v (.int .i64 8)] = some (.v (.bool false)) := by rw [mWithin_at]; exact congrArg (fun b => some (AV.v (.bool b))) h1
    simp [Try.f14, awp_skip, awp_seq, awp_block, awp_exit, awp_ret, awp_loop, awp_region, awp_cond, contS_normal, contS_exit, contS_ret, inB_normal, inB_exit, inB_ret, loopS_normal, loopS_exit, loopS_ret, doneS_normal, doneS_ret, regS_some, condS_bool, bindS_some, rrun_nil, rrun_cons, outD_some, stepG_some, rstep_eq, callOut_some, callV_fn, aop_call, take_map_all, guardOk, aop, ev, putD, ofV, ofV1, Value.oneCell', asNat, abin, aun, pickAV, scal, frz, TypeDesc.aggB, AV.cells, lenAV, getAt, loadCell, loadCells, res, resL, intern, internL, putCells, ownR, ownRL, drops, flat, kill, killL, killN, killNL, clean, keep, refsL, refs, once, place, renL, ren, ctx, G, resOk, resVars, resVar, ownR, ownRL, pack, viewEs, bndOf, appX, appY, List.range, List.range.loop, tInt, tBool, tInts, tIntss, tFrac, tLFrac, tFracs, tLFracs, eqT, cellInts, bld, partOk, ints, hw, priceOf, h1, pack]
  | true =>
    have hw : mWithin [.v (.int .i64 (xs.length : Int)), .v (.int .i64 1), .v (.int .i64 8)] = some (.v (.bool true)) := by rw [mWithin_at]; exact congrArg (fun b => some (AV.v (.bool b))) h1
    have h0 : 0 < xs.length := by simp [inR] at h1; omega
    generalize hpr : priceOf xs = pr
    simp [Try.f14, awp_skip, awp_seq, awp_block, awp_exit, awp_ret, awp_loop, awp_region, awp_cond, contS_normal, contS_exit, contS_ret, inB_normal, inB_exit, inB_ret, loopS_normal, loopS_exit, loopS_ret, doneS_normal, doneS_ret, regS_some, condS_bool, bindS_some, rrun_nil, rrun_cons, outD_some, stepG_some, rstep_eq, callOut_some, callV_fn, aop_call, take_map_all, guardOk, aop, ev, putD, ofV, ofV1, Value.oneCell', asNat, abin, aun, pickAV, scal, frz, TypeDesc.aggB, AV.cells, lenAV, getAt, loadCell, loadCells, res, resL, intern, internL, putCells, ownR, ownRL, drops, flat, kill, killL, killN, killNL, clean, keep, refsL, refs, once, place, renL, ren, ctx, G, resOk, resVars, resVar, ownR, ownRL, pack, viewEs, bndOf, appX, appY, List.range, List.range.loop, tInt, tBool, tInts, tIntss, tFrac, tLFrac, tFracs, tLFracs, eqT, cellInts, bld, partOk, ints, int, hw]
    refine awp_loop_of (ctx_ok eqOk hG) mixed (live := [true, false, true, true, false, true, true, true, true, true, false, false, false, true, true, true, true, true, false, false, false, false, true, false, false, false, false, false, true, true, true, true, false, false, false, false, false, true]) [true, false, false, false, false, false, false, false, false, false, false, false, false, false, true, true, true] (α := {k : Nat // k ≤ xs.length ∧ ∀ j (hj : j < xs.length), j < k → inR 0 10000 xs[j] = true})
      (fun k => ⟨[ints nl xs, .junk, .junk, .junk, .junk, .junk, .junk, .junk, .junk, .junk, .junk, .junk, .junk, .junk, ints nl xs, int xs.length, int k.1, .junk, .junk, .junk, .junk, .junk, .junk, .junk, .junk, .junk, .junk, .junk, .junk, .junk, .junk, .junk, .junk, .junk, .junk, .junk, .junk, .junk, .junk, .junk, .junk, .junk, .junk, .junk], []⟩) (fun k => xs.length - k.1) ⟨0, by omega, by omega⟩
      (by simp [sub, slotsLe, clean, keep, refsL, refs, once, place, renL, ren, List.replicate, int, bool, ints]) ?_
    rintro ⟨k, hk, hno⟩
    by_cases h : k < xs.length
    · cases hv : inR 0 10000 xs[k] with
      | true =>
        have hwk : mWithin [.v (.int .i64 xs[k]), .v (.int .i64 0), .v (.int .i64 10000)] = some (.v (.bool true)) := by rw [mWithin_at]; exact congrArg (fun b => some (AV.v (.bool b))) hv
        simp [awp_skip, awp_seq, awp_block, awp_exit, awp_ret, awp_loop, awp_region, awp_cond, contS_normal, contS_exit, contS_ret, inB_normal, inB_exit, inB_ret, loopS_normal, loopS_exit, loopS_ret, doneS_normal, doneS_ret, regS_some, condS_bool, bindS_some, rrun_nil, rrun_cons, outD_some, stepG_some, rstep_eq, callOut_some, callV_fn, aop_call, take_map_all, guardOk, aop, ev, putD, ofV, ofV1, Value.oneCell', asNat, abin, aun, pickAV, scal, frz, TypeDesc.aggB, AV.cells, lenAV, getAt, loadCell, loadCells, res, resL, intern, internL, putCells, ownR, ownRL, drops, flat, kill, killL, killN, killNL, clean, keep, refsL, refs, once, place, renL, ren, ctx, G, resOk, resVars, resVar, ownR, ownRL, pack, viewEs, bndOf, appX, appY, List.range, List.range.loop, tInt, tBool, tInts, tIntss, tFrac, tLFrac, tFracs, tLFracs, eqT, cellInts, bld, partOk, ints, int, h, hwk]
        refine ⟨⟨k + 1, h, fun j hj hjk => ?_⟩, ?_, by simp; omega⟩
        · by_cases e : j = k
          · subst e; exact hv
          · exact hno j hj (by omega)
        simp [sub, slotsLe, clean, keep, refsL, refs, once, place, renL, ren, List.replicate, int, bool, ints]
        exact wrapI (by omega) (by omega)
      | false =>
        have hwk : mWithin [.v (.int .i64 xs[k]), .v (.int .i64 0), .v (.int .i64 10000)] = some (.v (.bool false)) := by rw [mWithin_at]; exact congrArg (fun b => some (AV.v (.bool b))) hv
        have hpf : pr = .tup [.v (.int .i64 (-1)), .v (.int .i64 0)] := by rw [← hpr]; simp only [priceOf]; rw [all_not h hv]; simp
        simp [awp_skip, awp_seq, awp_block, awp_exit, awp_ret, awp_loop, awp_region, awp_cond, contS_normal, contS_exit, contS_ret, inB_normal, inB_exit, inB_ret, loopS_normal, loopS_exit, loopS_ret, doneS_normal, doneS_ret, regS_some, condS_bool, bindS_some, rrun_nil, rrun_cons, outD_some, stepG_some, rstep_eq, callOut_some, callV_fn, aop_call, take_map_all, guardOk, aop, ev, putD, ofV, ofV1, Value.oneCell', asNat, abin, aun, pickAV, scal, frz, TypeDesc.aggB, AV.cells, lenAV, getAt, loadCell, loadCells, res, resL, intern, internL, putCells, ownR, ownRL, drops, flat, kill, killL, killN, killNL, clean, keep, refsL, refs, once, place, renL, ren, ctx, G, resOk, resVars, resVar, ownR, ownRL, pack, viewEs, bndOf, appX, appY, List.range, List.range.loop, tInt, tBool, tInts, tIntss, tFrac, tLFrac, tFracs, tLFracs, eqT, cellInts, bld, partOk, ints, int, h, hwk, hpf, pack]
    · have hk' : k = xs.length := by omega
      subst hk'
      have h2 : xs.all (inR 0 10000) = true := all_of hno
      have hpt : priceOf xs = .tup [.v (.int .i64 ((posOf xs (mx xs) xs.length).headD 0)), .v (.int .i64 (secTo xs ((posOf xs (mx xs) xs.length).headD 0) xs.length))] := by simp [priceOf, h1, h2]
      cases hl : posOf xs (mx xs) xs.length with
      | nil => exact (posOf_ne (Nat.le_refl _) h0 hl).elim
      | cons p l =>
        rw [hl] at hg hpt
        simp only [List.headD_cons] at hpt
        rw [← hpr, hpt]
        simp [awp_skip, awp_seq, awp_block, awp_exit, awp_ret, awp_loop, awp_region, awp_cond, contS_normal, contS_exit, contS_ret, inB_normal, inB_exit, inB_ret, loopS_normal, loopS_exit, loopS_ret, doneS_normal, doneS_ret, regS_some, condS_bool, bindS_some, rrun_nil, rrun_cons, outD_some, stepG_some, rstep_eq, callOut_some, callV_fn, aop_call, take_map_all, guardOk, aop, ev, putD, ofV, ofV1, Value.oneCell', asNat, abin, aun, pickAV, scal, frz, TypeDesc.aggB, AV.cells, lenAV, getAt, loadCell, loadCells, res, resL, intern, internL, putCells, ownR, ownRL, drops, flat, kill, killL, killN, killNL, clean, keep, refsL, refs, once, place, renL, ren, ctx, G, resOk, resVars, resVar, ownR, ownRL, pack, viewEs, bndOf, appX, appY, List.range, List.range.loop, tInt, tBool, tInts, tIntss, tFrac, tLFrac, tFracs, tLFracs, eqT, cellInts, bld, partOk, ints, int, hg]
        refine awp_loop_of (ctx_ok eqOk hG) mixed (live := [true, false, true, true, false, true, true, true, true, true, false, false, false, true, true, true, true, true, false, false, false, false, true, false, false, false, false, false, true, true, true, true, false, false, false, false, false, true]) [false, false, false, false, false, false, true, true, false, false, false, false, false, false, false, false, false, false, false, false, false, false, false, false, false, false, false, false, true, true, true] (α := {k : Nat // k ≤ xs.length})
          (fun k => ⟨[.junk, .junk, .junk, .junk, .junk, .junk, int p, int (secTo xs p k.1), .junk, .junk, .junk, .junk, .junk, .junk, .junk, .junk, .junk, .junk, .junk, .junk, .junk, .junk, .junk, .junk, .junk, .junk, .junk, .junk, ints nl xs, int xs.length, int k.1, .junk, .junk, .junk, .junk, .junk, .junk, .junk, .junk, .junk, .junk, .junk, .junk, .junk], []⟩) (fun k => xs.length - k.1) ⟨0, by omega⟩
          (by simp [sub, slotsLe, clean, keep, refsL, refs, once, place, renL, ren, List.replicate, int, bool, ints, secTo]) ?_
        rintro ⟨k, hk⟩
        by_cases h : k < xs.length
        · have hgd : xs.getD k 0 = xs[k] := by rw [List.getD_eq_getElem?_getD, List.getElem?_eq_getElem h]; rfl
          by_cases e : (k : Int) = p
          · subst e
            simp [awp_skip, awp_seq, awp_block, awp_exit, awp_ret, awp_loop, awp_region, awp_cond, contS_normal, contS_exit, contS_ret, inB_normal, inB_exit, inB_ret, loopS_normal, loopS_exit, loopS_ret, doneS_normal, doneS_ret, regS_some, condS_bool, bindS_some, rrun_nil, rrun_cons, outD_some, stepG_some, rstep_eq, callOut_some, callV_fn, aop_call, take_map_all, guardOk, aop, ev, putD, ofV, ofV1, Value.oneCell', asNat, abin, aun, pickAV, scal, frz, TypeDesc.aggB, AV.cells, lenAV, getAt, loadCell, loadCells, res, resL, intern, internL, putCells, ownR, ownRL, drops, flat, kill, killL, killN, killNL, clean, keep, refsL, refs, once, place, renL, ren, ctx, G, resOk, resVars, resVar, ownR, ownRL, pack, viewEs, bndOf, appX, appY, List.range, List.range.loop, tInt, tBool, tInts, tIntss, tFrac, tLFrac, tFracs, tLFracs, eqT, cellInts, bld, partOk, ints, int, h]
            refine ⟨⟨k + 1, h⟩, ?_, by simp; omega⟩
            simp [sub, slotsLe, clean, keep, refsL, refs, once, place, renL, ren, List.replicate, int, bool, ints, secTo]
            exact wrapI (by omega) (by omega)
          · have e' : ((k : Int) != p) = true := by simpa using e
            simp [awp_skip, awp_seq, awp_block, awp_exit, awp_ret, awp_loop, awp_region, awp_cond, contS_normal, contS_exit, contS_ret, inB_normal, inB_exit, inB_ret, loopS_normal, loopS_exit, loopS_ret, doneS_normal, doneS_ret, regS_some, condS_bool, bindS_some, rrun_nil, rrun_cons, outD_some, stepG_some, rstep_eq, callOut_some, callV_fn, aop_call, take_map_all, guardOk, aop, ev, putD, ofV, ofV1, Value.oneCell', asNat, abin, aun, pickAV, scal, frz, TypeDesc.aggB, AV.cells, lenAV, getAt, loadCell, loadCells, res, resL, intern, internL, putCells, ownR, ownRL, drops, flat, kill, killL, killN, killNL, clean, keep, refsL, refs, once, place, renL, ren, ctx, G, resOk, resVars, resVar, ownR, ownRL, pack, viewEs, bndOf, appX, appY, List.range, List.range.loop, tInt, tBool, tInts, tIntss, tFrac, tLFrac, tFracs, tLFracs, eqT, cellInts, bld, partOk, ints, int, h, e, e']
            refine ⟨⟨k + 1, h⟩, ?_, by simp; omega⟩
            simp [sub, slotsLe, clean, keep, refsL, refs, once, place, renL, ren, List.replicate, int, bool, ints, secTo, e, hgd]
            exact ⟨by simp [h], wrapI (by omega) (by omega)⟩
        · have hk' : k = xs.length := by omega
          subst hk'
          simp [awp_skip, awp_seq, awp_block, awp_exit, awp_ret, awp_loop, awp_region, awp_cond, contS_normal, contS_exit, contS_ret, inB_normal, inB_exit, inB_ret, loopS_normal, loopS_exit, loopS_ret, doneS_normal, doneS_ret, regS_some, condS_bool, bindS_some, rrun_nil, rrun_cons, outD_some, stepG_some, rstep_eq, callOut_some, callV_fn, aop_call, take_map_all, guardOk, aop, ev, putD, ofV, ofV1, Value.oneCell', asNat, abin, aun, pickAV, scal, frz, TypeDesc.aggB, AV.cells, lenAV, getAt, loadCell, loadCells, res, resL, intern, internL, putCells, ownR, ownRL, drops, flat, kill, killL, killN, killNL, clean, keep, refsL, refs, once, place, renL, ren, ctx, G, resOk, resVars, resVar, ownR, ownRL, pack, viewEs, bndOf, appX, appY, List.range, List.range.loop, tInt, tBool, tInts, tIntss, tFrac, tLFrac, tFracs, tLFracs, eqT, cellInts, bld, partOk, ints, int, h, pack]

end Go.Proofs.Ytpeajmejggnpbaa.Ax
