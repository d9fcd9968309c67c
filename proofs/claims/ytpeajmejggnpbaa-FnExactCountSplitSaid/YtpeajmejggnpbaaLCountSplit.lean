/-
  FnExactCountSplit: for every list of fractions the two programs count the same and the argument reads as it did. No condition.
-/
import Derived.Test.YtpeajmejggnpbaaF3
namespace Go.Proofs.Ytpeajmejggnpbaa.Ax
open Go Go.RowKit
set_option linter.unusedSimpArgs false

def isSplit (f : Int × Int) : Bool := fracOk f && !decide (f = (0, 1)) && !decide (f = (1, 1))

noncomputable def mCountSplit : List AV → Option AV := mk (fun p => p.2.length ≤ 2 ^ 40) (fun (p : Bool × List (Int × Int)) => [fracs p.1 p.2]) (fun p => int (p.2.countP isSplit))
theorem mCountSplit_at (nl : Bool) (xs : List (Int × Int)) (h : xs.length ≤ 2 ^ 40) : mCountSplit [.sl nl 2 (xs.map frac)] = some (.v (.int .i64 (xs.countP isSplit))) :=
  mk_eq (enc := fun (p : Bool × List (Int × Int)) => [fracs p.1 p.2]) (x := (nl, xs)) (by rintro ⟨x, x'⟩ ⟨y, y'⟩ h; simp [fracs, map_frac_inj] at h; simp [h]) h

theorem countP_succ {α : Type} {p : α → Bool} {xs : List α} {k : Nat} (h : k < xs.length) : (xs.take (k + 1)).countP p = (xs.take k).countP p + if p xs[k] = true then 1 else 0 := by
  rw [List.take_succ_eq_append_getElem h, List.countP_append, List.countP_singleton]
theorem countP_take_le {α : Type} {p : α → Bool} {xs : List α} {k : Nat} : (xs.take k).countP p ≤ k := Nat.le_trans List.countP_le_length (List.length_take_le _ _)

def CsState (nl : Bool) (xs : List (Int × Int)) (k : Nat) : ASt :=
  ⟨[fracs nl xs, .junk, int 0, int ((xs.take k).countP isSplit), .junk, .junk, fracs nl xs, int xs.length, int k] ++ List.replicate 19 .junk, []⟩

set_option maxHeartbeats 2000000 in
theorem implCountSplit_ok : FnOk Try.prog 12 mCountSplit := by
  refine mk_ok fun ⟨nl, xs⟩ hpre => ?_
  simp only at hpre
  have hG : FnsOk Try.prog [(31, mFracOk), (32, mWhole)] := .cons implFractionOk_ok (.cons whole_ok .nil)
  refine callOk_of_awp (ctx_ok eqOk hG) mixed (live := [true, false, true, true, false, true, true, true, true, true, false, false, false, false, false, false, false, false, false, false, false, false, false, true]) Try.func12 rfl (by kernel_rfl) (by kernel_rfl) fun w0 => ?_
  simp [Try.f12, awp_skip, awp_seq, awp_block, awp_exit, awp_ret, awp_loop, awp_region, awp_cond, contS_normal, contS_exit, contS_ret, inB_normal, inB_exit, inB_ret, loopS_normal, loopS_exit, loopS_ret, doneS_normal, doneS_ret, regS_some, condS_bool, bindS_some, rrun_nil, rrun_cons, outD_some, stepG_some, rstep_eq, callOut_some, callV_fn, aop_call, take_map_all, guardOk, aop, ev, putD, ofV, ofV1, Value.oneCell', asNat, abin, aun, pickAV, scal, frz, TypeDesc.aggB, AV.cells, lenAV, getAt, loadCell, loadCells, res, resL, intern, internL, putCells, killN, killNL, clean, keep, refsL, refs, once, place, renL, ren, ctx, G, resOk, resVars, resVar, ownR, ownRL, pack, viewEs, tInt, tBool, tInts, tIntss, tFrac, tLFrac, tFracs, tLFracs, eqT, cellInts, bld, partOk, fracs, int]
  refine awp_loop_of (ctx_ok eqOk hG) mixed (live := [true, false, true, true, false, true, true, true, true, true, false, false, false, false, false, false, false, false, false, false, false, false, false, true]) [true, false, true, true, false, false, true, true, true] (α := {k : Nat // k ≤ xs.length}) (fun k => CsState nl xs k.1) (fun k => xs.length - k.1) ⟨0, by omega⟩ (by simp [sub, slotsLe, clean, keep, refsL, refs, once, place, renL, ren, List.replicate, int, bool, fracs, CsState]) ?_
  rintro ⟨k, hk⟩
  by_cases h : k < xs.length
  · obtain ⟨⟨t, b⟩, hx⟩ : ∃ f, xs[k] = f := ⟨_, rfl⟩
    have hs := countP_succ (p := isSplit) h
    have hle := countP_take_le (p := isSplit) (xs := xs) (k := k)
    rw [hx] at hs
    simp only [isSplit] at hs
    have fin : ∀ c : Nat, (xs.take (k + 1)).countP isSplit = c → (c : Int) ≤ k + 1 → True := fun _ _ _ => trivial
    cases h1 : fracOk (t, b) with
    | false =>
      simp [h1] at hs
      simp [awp_skip, awp_seq, awp_block, awp_exit, awp_ret, awp_loop, awp_region, awp_cond, contS_normal, contS_exit, contS_ret, inB_normal, inB_exit, inB_ret, loopS_normal, loopS_exit, loopS_ret, doneS_normal, doneS_ret, regS_some, condS_bool, bindS_some, rrun_nil, rrun_cons, outD_some, stepG_some, rstep_eq, callOut_some, callV_fn, aop_call, take_map_all, guardOk, aop, ev, putD, ofV, ofV1, Value.oneCell', asNat, abin, aun, pickAV, scal, frz, TypeDesc.aggB, AV.cells, lenAV, getAt, loadCell, loadCells, res, resL, intern, internL, putCells, killN, killNL, clean, keep, refsL, refs, once, place, renL, ren, ctx, G, resOk, resVars, resVar, ownR, ownRL, pack, viewEs, tInt, tBool, tInts, tIntss, tFrac, tLFrac, tFracs, tLFracs, eqT, cellInts, bld, partOk, CsState, fracs, int, h, List.replicate, frac, hx, mFracOk_at, mWhole_at, h1]
      refine ⟨⟨k + 1, h⟩, ?_, by simp; omega⟩
      simp [sub, slotsLe, clean, keep, refsL, refs, once, place, renL, ren, List.replicate, int, bool, CsState, fracs, hs]
      exact wrapI (by omega) (by omega)
    | true =>
      by_cases h2 : t = 0 ∧ b = 1
      · obtain ⟨rfl, rfl⟩ := h2
        simp [h1] at hs
        simp [awp_skip, awp_seq, awp_block, awp_exit, awp_ret, awp_loop, awp_region, awp_cond, contS_normal, contS_exit, contS_ret, inB_normal, inB_exit, inB_ret, loopS_normal, loopS_exit, loopS_ret, doneS_normal, doneS_ret, regS_some, condS_bool, bindS_some, rrun_nil, rrun_cons, outD_some, stepG_some, rstep_eq, callOut_some, callV_fn, aop_call, take_map_all, guardOk, aop, ev, putD, ofV, ofV1, Value.oneCell', asNat, abin, aun, pickAV, scal, frz, TypeDesc.aggB, AV.cells, lenAV, getAt, loadCell, loadCells, res, resL, intern, internL, putCells, killN, killNL, clean, keep, refsL, refs, once, place, renL, ren, ctx, G, resOk, resVars, resVar, ownR, ownRL, pack, viewEs, tInt, tBool, tInts, tIntss, tFrac, tLFrac, tFracs, tLFracs, eqT, cellInts, bld, partOk, CsState, fracs, int, h, List.replicate, frac, hx, mFracOk_at, mWhole_at, h1]
        refine ⟨⟨k + 1, h⟩, ?_, by simp; omega⟩
        simp [sub, slotsLe, clean, keep, refsL, refs, once, place, renL, ren, List.replicate, int, bool, CsState, fracs, hs]
        exact wrapI (by omega) (by omega)
      · by_cases h3 : t = 1 ∧ b = 1
        · obtain ⟨rfl, rfl⟩ := h3
          simp [h1] at hs
          simp [awp_skip, awp_seq, awp_block, awp_exit, awp_ret, awp_loop, awp_region, awp_cond, contS_normal, contS_exit, contS_ret, inB_normal, inB_exit, inB_ret, loopS_normal, loopS_exit, loopS_ret, doneS_normal, doneS_ret, regS_some, condS_bool, bindS_some, rrun_nil, rrun_cons, outD_some, stepG_some, rstep_eq, callOut_some, callV_fn, aop_call, take_map_all, guardOk, aop, ev, putD, ofV, ofV1, Value.oneCell', asNat, abin, aun, pickAV, scal, frz, TypeDesc.aggB, AV.cells, lenAV, getAt, loadCell, loadCells, res, resL, intern, internL, putCells, killN, killNL, clean, keep, refsL, refs, once, place, renL, ren, ctx, G, resOk, resVars, resVar, ownR, ownRL, pack, viewEs, tInt, tBool, tInts, tIntss, tFrac, tLFrac, tFracs, tLFracs, eqT, cellInts, bld, partOk, CsState, fracs, int, h, List.replicate, frac, hx, mFracOk_at, mWhole_at, h1]
          refine ⟨⟨k + 1, h⟩, ?_, by simp; omega⟩
          simp [sub, slotsLe, clean, keep, refsL, refs, once, place, renL, ren, List.replicate, int, bool, CsState, fracs, hs]
          exact wrapI (by omega) (by omega)
        · simp [h1, h2, h3] at hs
          simp [awp_skip, awp_seq, awp_block, awp_exit, awp_ret, awp_loop, awp_region, awp_cond, contS_normal, contS_exit, contS_ret, inB_normal, inB_exit, inB_ret, loopS_normal, loopS_exit, loopS_ret, doneS_normal, doneS_ret, regS_some, condS_bool, bindS_some, rrun_nil, rrun_cons, outD_some, stepG_some, rstep_eq, callOut_some, callV_fn, aop_call, take_map_all, guardOk, aop, ev, putD, ofV, ofV1, Value.oneCell', asNat, abin, aun, pickAV, scal, frz, TypeDesc.aggB, AV.cells, lenAV, getAt, loadCell, loadCells, res, resL, intern, internL, putCells, killN, killNL, clean, keep, refsL, refs, once, place, renL, ren, ctx, G, resOk, resVars, resVar, ownR, ownRL, pack, viewEs, tInt, tBool, tInts, tIntss, tFrac, tLFrac, tFracs, tLFracs, eqT, cellInts, bld, partOk, CsState, fracs, int, h, List.replicate, frac, hx, mFracOk_at, mWhole_at, h1, h2, h3]
          refine ⟨⟨k + 1, h⟩, ?_, by simp; omega⟩
          simp [sub, slotsLe, clean, keep, refsL, refs, once, place, renL, ren, List.replicate, int, bool, CsState, fracs, hs]
          exact ⟨wrapI (by omega) (by omega), wrapI (by omega) (by omega)⟩
  · have hk' : k = xs.length := by omega
    subst hk'
    simp [awp_skip, awp_seq, awp_block, awp_exit, awp_ret, awp_loop, awp_region, awp_cond, contS_normal, contS_exit, contS_ret, inB_normal, inB_exit, inB_ret, loopS_normal, loopS_exit, loopS_ret, doneS_normal, doneS_ret, regS_some, condS_bool, bindS_some, rrun_nil, rrun_cons, outD_some, stepG_some, rstep_eq, callOut_some, callV_fn, aop_call, take_map_all, guardOk, aop, ev, putD, ofV, ofV1, Value.oneCell', asNat, abin, aun, pickAV, scal, frz, TypeDesc.aggB, AV.cells, lenAV, getAt, loadCell, loadCells, res, resL, intern, internL, putCells, killN, killNL, clean, keep, refsL, refs, once, place, renL, ren, ctx, G, resOk, resVars, resVar, ownR, ownRL, pack, viewEs, tInt, tBool, tInts, tIntss, tFrac, tLFrac, tFracs, tLFracs, eqT, cellInts, bld, partOk, CsState, fracs, int, List.replicate]

set_option maxHeartbeats 2000000 in
theorem specCountSplit_ok : FnOk Try.prog 10 mCountSplit := by
  refine mk_ok fun ⟨nl, xs⟩ hpre => ?_
  simp only at hpre
  have hG : FnsOk Try.prog [(29, mFracOk)] := .cons specFractionOk_ok .nil
  refine callOk_of_awp (ctx_ok eqOk hG) mixed (live := [true, false, true, true, false, true, true, true, true, true, false, false, false, false, false, false, false, false, false, false, false, false, false, true]) Try.func10 rfl (by kernel_rfl) (by kernel_rfl) fun w0 => ?_
  simp [Try.f10, awp_skip, awp_seq, awp_block, awp_exit, awp_ret, awp_loop, awp_region, awp_cond, contS_normal, contS_exit, contS_ret, inB_normal, inB_exit, inB_ret, loopS_normal, loopS_exit, loopS_ret, doneS_normal, doneS_ret, regS_some, condS_bool, bindS_some, rrun_nil, rrun_cons, outD_some, stepG_some, rstep_eq, callOut_some, callV_fn, aop_call, take_map_all, guardOk, aop, ev, putD, ofV, ofV1, Value.oneCell', asNat, abin, aun, pickAV, scal, frz, TypeDesc.aggB, AV.cells, lenAV, getAt, loadCell, loadCells, res, resL, intern, internL, putCells, killN, killNL, clean, keep, refsL, refs, once, place, renL, ren, ctx, G, resOk, resVars, resVar, ownR, ownRL, pack, viewEs, tInt, tBool, tInts, tIntss, tFrac, tLFrac, tFracs, tLFracs, eqT, cellInts, bld, partOk, fracs, int]
  refine awp_loop_of (ctx_ok eqOk hG) mixed (live := [true, false, true, true, false, true, true, true, true, true, false, false, false, false, false, false, false, false, false, false, false, false, false, true]) [true, false, true, true, false, false, true, true, true] (α := {k : Nat // k ≤ xs.length}) (fun k => CsState nl xs k.1) (fun k => xs.length - k.1) ⟨0, by omega⟩ (by simp [sub, slotsLe, clean, keep, refsL, refs, once, place, renL, ren, List.replicate, int, bool, fracs, CsState]) ?_
  rintro ⟨k, hk⟩
  by_cases h : k < xs.length
  · obtain ⟨⟨t, b⟩, hx⟩ : ∃ f, xs[k] = f := ⟨_, rfl⟩
    have hs := countP_succ (p := isSplit) h
    have hle := countP_take_le (p := isSplit) (xs := xs) (k := k)
    rw [hx] at hs
    simp only [isSplit] at hs
    have fin : ∀ c : Nat, (xs.take (k + 1)).countP isSplit = c → (c : Int) ≤ k + 1 → True := fun _ _ _ => trivial
    cases h1 : fracOk (t, b) with
    | false =>
      simp [h1] at hs
      simp [awp_skip, awp_seq, awp_block, awp_exit, awp_ret, awp_loop, awp_region, awp_cond, contS_normal, contS_exit, contS_ret, inB_normal, inB_exit, inB_ret, loopS_normal, loopS_exit, loopS_ret, doneS_normal, doneS_ret, regS_some, condS_bool, bindS_some, rrun_nil, rrun_cons, outD_some, stepG_some, rstep_eq, callOut_some, callV_fn, aop_call, take_map_all, guardOk, aop, ev, putD, ofV, ofV1, Value.oneCell', asNat, abin, aun, pickAV, scal, frz, TypeDesc.aggB, AV.cells, lenAV, getAt, loadCell, loadCells, res, resL, intern, internL, putCells, killN, killNL, clean, keep, refsL, refs, once, place, renL, ren, ctx, G, resOk, resVars, resVar, ownR, ownRL, pack, viewEs, tInt, tBool, tInts, tIntss, tFrac, tLFrac, tFracs, tLFracs, eqT, cellInts, bld, partOk, CsState, fracs, int, h, List.replicate, frac, hx, mFracOk_at, h1]
      refine ⟨⟨k + 1, h⟩, ?_, by simp; omega⟩
      simp [sub, slotsLe, clean, keep, refsL, refs, once, place, renL, ren, List.replicate, int, bool, CsState, fracs, hs]
      exact wrapI (by omega) (by omega)
    | true =>
      by_cases h2 : t = 0 ∧ b = 1
      · obtain ⟨rfl, rfl⟩ := h2
        simp [h1] at hs
        simp [awp_skip, awp_seq, awp_block, awp_exit, awp_ret, awp_loop, awp_region, awp_cond, contS_normal, contS_exit, contS_ret, inB_normal, inB_exit, inB_ret, loopS_normal, loopS_exit, loopS_ret, doneS_normal, doneS_ret, regS_some, condS_bool, bindS_some, rrun_nil, rrun_cons, outD_some, stepG_some, rstep_eq, callOut_some, callV_fn, aop_call, take_map_all, guardOk, aop, ev, putD, ofV, ofV1, Value.oneCell', asNat, abin, aun, pickAV, scal, frz, TypeDesc.aggB, AV.cells, lenAV, getAt, loadCell, loadCells, res, resL, intern, internL, putCells, killN, killNL, clean, keep, refsL, refs, once, place, renL, ren, ctx, G, resOk, resVars, resVar, ownR, ownRL, pack, viewEs, tInt, tBool, tInts, tIntss, tFrac, tLFrac, tFracs, tLFracs, eqT, cellInts, bld, partOk, CsState, fracs, int, h, List.replicate, frac, hx, mFracOk_at, h1]
        refine ⟨⟨k + 1, h⟩, ?_, by simp; omega⟩
        simp [sub, slotsLe, clean, keep, refsL, refs, once, place, renL, ren, List.replicate, int, bool, CsState, fracs, hs]
        exact wrapI (by omega) (by omega)
      · by_cases h3 : t = 1 ∧ b = 1
        · obtain ⟨rfl, rfl⟩ := h3
          simp [h1] at hs
          simp [awp_skip, awp_seq, awp_block, awp_exit, awp_ret, awp_loop, awp_region, awp_cond, contS_normal, contS_exit, contS_ret, inB_normal, inB_exit, inB_ret, loopS_normal, loopS_exit, loopS_ret, doneS_normal, doneS_ret, regS_some, condS_bool, bindS_some, rrun_nil, rrun_cons, outD_some, stepG_some, rstep_eq, callOut_some, callV_fn, aop_call, take_map_all, guardOk, aop, ev, putD, ofV, ofV1, Value.oneCell', asNat, abin, aun, pickAV, scal, frz, TypeDesc.aggB, AV.cells, lenAV, getAt, loadCell, loadCells, res, resL, intern, internL, putCells, killN, killNL, clean, keep, refsL, refs, once, place, renL, ren, ctx, G, resOk, resVars, resVar, ownR, ownRL, pack, viewEs, tInt, tBool, tInts, tIntss, tFrac, tLFrac, tFracs, tLFracs, eqT, cellInts, bld, partOk, CsState, fracs, int, h, List.replicate, frac, hx, mFracOk_at, h1]
          refine ⟨⟨k + 1, h⟩, ?_, by simp; omega⟩
          simp [sub, slotsLe, clean, keep, refsL, refs, once, place, renL, ren, List.replicate, int, bool, CsState, fracs, hs]
          exact wrapI (by omega) (by omega)
        · simp [h1, h2, h3] at hs
          simp [awp_skip, awp_seq, awp_block, awp_exit, awp_ret, awp_loop, awp_region, awp_cond, contS_normal, contS_exit, contS_ret, inB_normal, inB_exit, inB_ret, loopS_normal, loopS_exit, loopS_ret, doneS_normal, doneS_ret, regS_some, condS_bool, bindS_some, rrun_nil, rrun_cons, outD_some, stepG_some, rstep_eq, callOut_some, callV_fn, aop_call, take_map_all, guardOk, aop, ev, putD, ofV, ofV1, Value.oneCell', asNat, abin, aun, pickAV, scal, frz, TypeDesc.aggB, AV.cells, lenAV, getAt, loadCell, loadCells, res, resL, intern, internL, putCells, killN, killNL, clean, keep, refsL, refs, once, place, renL, ren, ctx, G, resOk, resVars, resVar, ownR, ownRL, pack, viewEs, tInt, tBool, tInts, tIntss, tFrac, tLFrac, tFracs, tLFracs, eqT, cellInts, bld, partOk, CsState, fracs, int, h, List.replicate, frac, hx, mFracOk_at, h1, h2, h3]
          refine ⟨⟨k + 1, h⟩, ?_, by simp; omega⟩
          simp [sub, slotsLe, clean, keep, refsL, refs, once, place, renL, ren, List.replicate, int, bool, CsState, fracs, hs]
          exact ⟨wrapI (by omega) (by omega), wrapI (by omega) (by omega)⟩
  · have hk' : k = xs.length := by omega
    subst hk'
    simp [awp_skip, awp_seq, awp_block, awp_exit, awp_ret, awp_loop, awp_region, awp_cond, contS_normal, contS_exit, contS_ret, inB_normal, inB_exit, inB_ret, loopS_normal, loopS_exit, loopS_ret, doneS_normal, doneS_ret, regS_some, condS_bool, bindS_some, rrun_nil, rrun_cons, outD_some, stepG_some, rstep_eq, callOut_some, callV_fn, aop_call, take_map_all, guardOk, aop, ev, putD, ofV, ofV1, Value.oneCell', asNat, abin, aun, pickAV, scal, frz, TypeDesc.aggB, AV.cells, lenAV, getAt, loadCell, loadCells, res, resL, intern, internL, putCells, killN, killNL, clean, keep, refsL, refs, once, place, renL, ren, ctx, G, resOk, resVars, resVar, ownR, ownRL, pack, viewEs, tInt, tBool, tInts, tIntss, tFrac, tLFrac, tFracs, tLFracs, eqT, cellInts, bld, partOk, CsState, fracs, int, List.replicate]

set_option maxHeartbeats 1000000 in
theorem law_CountSplit (nl : Bool) (xs : List (Int × Int)) (hpre : xs.length < 2 ^ 63) : CallOk Try.prog 3 [fracs nl xs] (bool true) := by
  have hG : FnsOk Try.prog [(9, mSzF), (11, mToFs), (10, mCountSplit), (12, mCountSplit), (13, mEqFs)] :=
    .cons szFractionS_ok (.cons toFractionS_ok (.cons specCountSplit_ok (.cons implCountSplit_ok (.cons eqFractionS_ok .nil))))
  refine callOk_of_awp (ctx_ok eqOk hG) mixed (live := [true, false, true, true, true, true, true, false, false, false, false, true, false, false, false, false, false, false, false, false, false, true, false, false, false, false, true]) Try.func3 rfl (by kernel_rfl) (by kernel_rfl) fun w0 => ?_
  have hz := mSzF_at nl xs 1048576 hpre (by omega) (by omega)
  by_cases h : 1048576 < xs.length
  · have h' : (1048576 : Int) < xs.length := by omega
    simp [h'] at hz
    simp [Try.f3, awp_skip, awp_seq, awp_block, awp_exit, awp_ret, awp_loop, awp_region, awp_cond, contS_normal, contS_exit, contS_ret, inB_normal, inB_exit, inB_ret, loopS_normal, loopS_exit, loopS_ret, doneS_normal, doneS_ret, regS_some, condS_bool, bindS_some, rrun_nil, rrun_cons, outD_some, stepG_some, rstep_eq, callOut_some, callV_fn, aop_call, take_map_all, guardOk, aop, ev, putD, ofV, ofV1, Value.oneCell', asNat, abin, aun, pickAV, scal, frz, TypeDesc.aggB, AV.cells, lenAV, getAt, loadCell, loadCells, res, resL, intern, internL, putCells, killN, killNL, clean, keep, refsL, refs, once, place, renL, ren, ctx, G, resOk, resVars, resVar, ownR, ownRL, pack, viewEs, tInt, tBool, tInts, tIntss, tFrac, tLFrac, tFracs, tLFracs, eqT, cellInts, bld, partOk, fracs, hz, bool]
  · have h' : ¬ (1048576 : Int) < xs.length := by omega
    have hlt : ¬ (1048576 - (xs.length : Int)) < 0 := by omega
    simp [h'] at hz
    simp [Try.f3, awp_skip, awp_seq, awp_block, awp_exit, awp_ret, awp_loop, awp_region, awp_cond, contS_normal, contS_exit, contS_ret, inB_normal, inB_exit, inB_ret, loopS_normal, loopS_exit, loopS_ret, doneS_normal, doneS_ret, regS_some, condS_bool, bindS_some, rrun_nil, rrun_cons, outD_some, stepG_some, rstep_eq, callOut_some, callV_fn, aop_call, take_map_all, guardOk, aop, ev, putD, ofV, ofV1, Value.oneCell', asNat, abin, aun, pickAV, scal, frz, TypeDesc.aggB, AV.cells, lenAV, getAt, loadCell, loadCells, res, resL, intern, internL, putCells, killN, killNL, clean, keep, refsL, refs, once, place, renL, ren, ctx, G, resOk, resVars, resVar, ownR, ownRL, pack, viewEs, tInt, tBool, tInts, tIntss, tFrac, tLFrac, tFracs, tLFracs, eqT, cellInts, bld, partOk, fracs, hz, bool, h', hlt, mToFs_at nl xs (by omega), mCountSplit_at false xs (by omega), mEqFs_at false false xs xs (by omega) (by omega)]

end Go.Proofs.Ytpeajmejggnpbaa.Ax
