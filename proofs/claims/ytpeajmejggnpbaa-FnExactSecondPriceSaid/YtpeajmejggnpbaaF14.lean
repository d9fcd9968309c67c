/-
  Contracts of the two SecondPrice. No condition.
-/
import Derived.Test.YtpeajmejggnpbaaF7
import Derived.Test.YtpeajmejggnpbaaF13
namespace Go.Proofs.Ytpeajmejggnpbaa.Ax
open Go Go.RowKit
set_option linter.unusedSimpArgs false

/-- The greatest of the first k bids but the one at p, and 0. -/
def secTo (xs : List Int) (p : Int) : Nat → Int
  | 0 => 0
  | k + 1 => if (k : Int) = p then secTo xs p k else max (secTo xs p k) (xs.getD k 0)
def priceOf (xs : List Int) : AV :=
  if (inR 1 8 xs.length && xs.all (inR 0 10000)) = true then .tup [.v (.int .i64 ((posOf xs (mx xs) xs.length).headD 0)), .v (.int .i64 (secTo xs ((posOf xs (mx xs) xs.length).headD 0) xs.length))] else .tup [.v (.int .i64 (-1)), .v (.int .i64 0)]

noncomputable def mSecond : List AV → Option AV := mk (fun p => p.2.length ≤ 2 ^ 40) (fun (p : Bool × List Int) => [ints p.1 p.2]) (fun p => priceOf p.2)
theorem mSecond_at (nl : Bool) (xs : List Int) (h' : xs.length ≤ 2 ^ 40) : mSecond [.sl nl 1 (xs.map int)] = some (priceOf xs) :=
  mk_eq (enc := fun (p : Bool × List Int) => [ints p.1 p.2]) (x := (nl, xs)) (by rintro ⟨x, x'⟩ ⟨y, y'⟩ h; simp [ints, map_int_inj] at h; simp [h]) h'

set_option maxHeartbeats 4000000 in
theorem implSecondPrice_ok : FnOk Try.prog 16 mSecond := by
  refine mk_ok fun ⟨nl, xs⟩ hp => ?_
  simp only at hp
  have hG : FnsOk Try.prog [(36, mWithin), (37, mAllIn), (38, mGreat)] := .cons within_ok (.cons allWithin_ok (.cons greatest_ok .nil))
  refine callOk_of_awp (ctx_ok eqOk hG) mixed (live := [true, false, true, true, true, true, true, true, false, false, false, false, false, false, false, false, true, false, false, false, false, true, true, true, true, false, false, false, false, false, true]) Try.func16 rfl (by kernel_rfl) (by kernel_rfl) fun w0 => ?_
  have hm := mAllIn_at nl xs 0 10000 hp
  have hg := mGreat_at nl xs hp
  cases h1 : inR 1 8 xs.length with
  | false =>
    have hw : mWithin [.v (.int .i64 (xs.length : Int)), .v (.int .i64 1), .v (.int .i64 8)] = some (.v (.bool false)) := by rw [mWithin_at]; exact congrArg (fun b => some (AV.v (.bool b))) h1
    simp [Try.f16, awp_skip, awp_seq, awp_block, awp_exit, awp_ret, awp_loop, awp_region, awp_cond, contS_normal, contS_exit, contS_ret, inB_normal, inB_exit, inB_ret, loopS_normal, loopS_exit, loopS_ret, doneS_normal, doneS_ret, regS_some, condS_bool, bindS_some, rrun_nil, rrun_cons, outD_some, stepG_some, rstep_eq, callOut_some, callV_fn, aop_call, take_map_all, guardOk, aop, ev, putD, ofV, ofV1, Value.oneCell', asNat, abin, aun, pickAV, scal, frz, TypeDesc.aggB, AV.cells, lenAV, getAt, loadCell, loadCells, res, resL, intern, internL, putCells, ownR, ownRL, drops, flat, kill, killL, killN, killNL, clean, keep, refsL, refs, once, place, renL, ren, ctx, G, resOk, resVars, resVar, ownR, ownRL, pack, viewEs, bndOf, appX, appY, List.range, List.range.loop, tInt, tBool, tInts, tIntss, tFrac, tLFrac, tFracs, tLFracs, eqT, cellInts, bld, partOk, ints, hw, priceOf, h1, pack]
  | true =>
    have hw : mWithin [.v (.int .i64 (xs.length : Int)), .v (.int .i64 1), .v (.int .i64 8)] = some (.v (.bool true)) := by rw [mWithin_at]; exact congrArg (fun b => some (AV.v (.bool b))) h1
    cases h2 : xs.all (inR 0 10000) with
    | false =>
      rw [h2] at hm
      simp [Try.f16, awp_skip, awp_seq, awp_block, awp_exit, awp_ret, awp_loop, awp_region, awp_cond, contS_normal, contS_exit, contS_ret, inB_normal, inB_exit, inB_ret, loopS_normal, loopS_exit, loopS_ret, doneS_normal, doneS_ret, regS_some, condS_bool, bindS_some, rrun_nil, rrun_cons, outD_some, stepG_some, rstep_eq, callOut_some, callV_fn, aop_call, take_map_all, guardOk, aop, ev, putD, ofV, ofV1, Value.oneCell', asNat, abin, aun, pickAV, scal, frz, TypeDesc.aggB, AV.cells, lenAV, getAt, loadCell, loadCells, res, resL, intern, internL, putCells, ownR, ownRL, drops, flat, kill, killL, killN, killNL, clean, keep, refsL, refs, once, place, renL, ren, ctx, G, resOk, resVars, resVar, ownR, ownRL, pack, viewEs, bndOf, appX, appY, List.range, List.range.loop, tInt, tBool, tInts, tIntss, tFrac, tLFrac, tFracs, tLFracs, eqT, cellInts, bld, partOk, ints, hw, hm, priceOf, h1, h2, pack]
    | true =>
      rw [h2] at hm
      have h0 : 0 < xs.length := by simp [inR] at h1; omega
      have hpr : priceOf xs = .tup [.v (.int .i64 ((posOf xs (mx xs) xs.length).headD 0)), .v (.int .i64 (secTo xs ((posOf xs (mx xs) xs.length).headD 0) xs.length))] := by simp [priceOf, h1, h2]
      cases hl : posOf xs (mx xs) xs.length with
      | nil => exact (posOf_ne (Nat.le_refl _) h0 hl).elim
      | cons p l =>
        rw [hl] at hg hpr
        simp only [List.headD_cons] at hpr
        rw [hpr]
        simp [Try.f16, awp_skip, awp_seq, awp_block, awp_exit, awp_ret, awp_loop, awp_region, awp_cond, contS_normal, contS_exit, contS_ret, inB_normal, inB_exit, inB_ret, loopS_normal, loopS_exit, loopS_ret, doneS_normal, doneS_ret, regS_some, condS_bool, bindS_some, rrun_nil, rrun_cons, outD_some, stepG_some, rstep_eq, callOut_some, callV_fn, aop_call, take_map_all, guardOk, aop, ev, putD, ofV, ofV1, Value.oneCell', asNat, abin, aun, pickAV, scal, frz, TypeDesc.aggB, AV.cells, lenAV, getAt, loadCell, loadCells, res, resL, intern, internL, putCells, ownR, ownRL, drops, flat, kill, killL, killN, killNL, clean, keep, refsL, refs, once, place, renL, ren, ctx, G, resOk, resVars, resVar, ownR, ownRL, pack, viewEs, bndOf, appX, appY, List.range, List.range.loop, tInt, tBool, tInts, tIntss, tFrac, tLFrac, tFracs, tLFracs, eqT, cellInts, bld, partOk, ints, int, hw, hm, hg]
        refine awp_loop_of (ctx_ok eqOk hG) mixed (live := [true, false, true, true, true, true, true, true, false, false, false, false, false, false, false, false, true, false, false, false, false, true, true, true, true, false, false, false, false, false, true]) [false, false, false, false, true, true, false, false, false, false, false, false, false, false, false, false, false, false, false, false, false, true, true, true] (α := {k : Nat // k ≤ xs.length})
          (fun k => ⟨[.junk, .junk, .junk, .junk, int p, int (secTo xs p k.1), .junk, .junk, .junk, .junk, .junk, .junk, .junk, .junk, .junk, .junk, .junk, .junk, .junk, .junk, .junk, ints nl xs, int xs.length, int k.1, .junk, .junk, .junk, .junk, .junk, .junk, .junk, .junk, .junk, .junk, .junk, .junk, .junk], []⟩) (fun k => xs.length - k.1) ⟨0, by omega⟩
          (by simp [sub, slotsLe, clean, keep, refsL, refs, once, place, renL, ren, List.replicate, int, bool, ints, secTo]) ?_
        rintro ⟨k, hk⟩
        by_cases h : k < xs.length
        · have hgd : xs.getD k 0 = xs[k] := by rw [List.getD_eq_getElem?_getD, List.getElem?_eq_getElem h]; rfl
          by_cases e : (k : Int) = p
          · subst e
            simp [awp_skip, awp_seq, awp_block, awp_exit, awp_ret, awp_loop, awp_region, awp_cond, contS_normal, contS_exit, contS_ret, inB_normal, inB_exit, inB_ret, loopS_normal, loopS_exit, loopS_ret, doneS_normal, doneS_ret, regS_some, condS_bool, bindS_some, rrun_nil, rrun_cons, outD_some, stepG_some, rstep_eq, callOut_some, callV_fn, aop_call, take_map_all, guardOk, aop, ev, putD, ofV, ofV1, Value.oneCell', asNat, abin, aun, pickAV, scal, frz, TypeDesc.aggB, AV.cells, lenAV, getAt, loadCell, loadCells, res, resL, intern, internL, putCells, ownR, ownRL, drops, flat, kill, killL, killN, killNL, clean, keep, refsL, refs, once, place, renL, ren, ctx, G, resOk, resVars, resVar, ownR, ownRL, pack, viewEs, bndOf, appX, appY, List.range, List.range.loop, tInt, tBool, tInts, tIntss, tFrac, tLFrac, tFracs, tLFracs, eqT, cellInts, bld, partOk, ints, int, h]
            refine ⟨⟨k + 1, h⟩, ?_, by simp; omega⟩
            simp [sub, slotsLe, clean, keep, refsL, refs, once, place, renL, ren, List.replicate, int, bool, ints, secTo]
            exact wrapI (by omega) (by omega)
          · have e' : ((k : Int) != p) = true := by simpa using e
            simp [awp_skip, awp_seq, awp_block, awp_exit, awp_ret, awp_loop, awp_region, awp_cond, contS_normal, contS_exit, contS_ret, inB_normal, inB_exit, inB_ret, loopS_normal, loopS_exit, loopS_ret, doneS_normal, doneS_ret, regS_some, condS_bool, bindS_some, rrun_nil, rrun_cons, outD_some, stepG_some, rstep_eq, callOut_some, callV_fn, aop_call, take_map_all, guardOk, aop, ev, putD, ofV, ofV1, Value.oneCell', asNat, abin, aun, pickAV, scal, frz, TypeDesc.aggB, AV.cells, lenAV, getAt, loadCell, loadCells, res, resL, intern, internL, putCells, ownR, ownRL, drops, flat, kill, killL, killN, killNL, clean, keep, refsL, refs, once, place, renL, ren, ctx, G, resOk, resVars, resVar, ownR, ownRL, pack, viewEs, bndOf, appX, appY, List.range, List.range.loop, tInt, tBool, tInts, tIntss, tFrac, tLFrac, tFracs, tLFracs, eqT, cellInts, bld, partOk, ints, int, h, e, e']
            refine ⟨⟨k + 1, h⟩, ?_, by simp; omega⟩
            simp [sub, slotsLe, clean, keep, refsL, refs, once, place, renL, ren, List.replicate, int, bool, ints, secTo, e, hgd]
            exact ⟨by simp [h], wrapI (by omega) (by omega)⟩
        · have hk' : k = xs.length := by omega
          subst hk'
          simp [awp_skip, awp_seq, awp_block, awp_exit, awp_ret, awp_loop, awp_region, awp_cond, contS_normal, contS_exit, contS_ret, inB_normal, inB_exit, inB_ret, loopS_normal, loopS_exit, loopS_ret, doneS_normal, doneS_ret, regS_some, condS_bool, bindS_some, rrun_nil, rrun_cons, outD_some, stepG_some, rstep_eq, callOut_some, callV_fn, aop_call, take_map_all, guardOk, aop, ev, putD, ofV, ofV1, Value.oneCell', asNat, abin, aun, pickAV, scal, frz, TypeDesc.aggB, AV.cells, lenAV, getAt, loadCell, loadCells, res, resL, intern, internL, putCells, ownR, ownRL, drops, flat, kill, killL, killN, killNL, clean, keep, refsL, refs, once, place, renL, ren, ctx, G, resOk, resVars, resVar, ownR, ownRL, pack, viewEs, bndOf, appX, appY, List.range, List.range.loop, tInt, tBool, tInts, tIntss, tFrac, tLFrac, tFracs, tLFracs, eqT, cellInts, bld, partOk, ints, int, h, pack]

end Go.Proofs.Ytpeajmejggnpbaa.Ax
