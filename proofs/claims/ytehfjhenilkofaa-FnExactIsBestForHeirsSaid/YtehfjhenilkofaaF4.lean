/-
  Contracts of the functions on lists of ints. No condition.
-/
import Derived.Test.YtehfjhenilkofaaF3
namespace Go.Proofs.Ytehfjhenilkofaa.Ax
open Go Go.RowKit
set_option linter.unusedSimpArgs false

noncomputable def mToIs : List AV → Option AV := mk (fun p => p.2.length ≤ 2 ^ 40) (fun (p : Bool × List Int) => [ints p.1 p.2]) (fun p => ints false p.2)
theorem mToIs_at (nl : Bool) (xs : List Int) (h : xs.length ≤ 2 ^ 40) : mToIs [.sl nl 1 (xs.map int)] = some (.sl false 1 (xs.map int)) :=
  mk_eq (enc := fun (p : Bool × List Int) => [ints p.1 p.2]) (x := (nl, xs)) (by rintro ⟨x, x'⟩ ⟨y, y'⟩ h; simp [ints, map_int_inj] at h; simp [h]) h

set_option maxHeartbeats 1000000 in
theorem toIntS_ok : FnOk Try.prog 24 mToIs := by
  refine mk_ok fun ⟨nl, xs⟩ hpre => ?_
  simp only at hpre
  refine callOk_of_awp (ctx_ok eqOk .nil) mixed (live := [true, false, true, true, true, false, false, false, false, false, false, true]) Try.func24 rfl (by kernel_rfl) (by kernel_rfl) fun w0 => ?_
  have hb : 8 * xs.length ≤ 281474976710656 := by omega
  have hn : xs.length ≤ 4611686018427387904 := by omega
  simp [Try.f24, awp_skip, awp_seq, awp_block, awp_exit, awp_ret, awp_loop, awp_region, awp_cond, contS_normal, contS_exit, contS_ret, inB_normal, inB_exit, inB_ret, loopS_normal, loopS_exit, loopS_ret, doneS_normal, doneS_ret, regS_some, condS_bool, bindS_some, rrun_nil, rrun_cons, outD_some, stepG_some, rstep_eq, callOut_some, callOut_none, mutCall_none, dC_false, dC_true, noM_mk, callV_fn, aop_call, take_map_all, guardOk, aop, ev, putD, ofV, ofV1, Value.oneCell', asNat, abin, aun, pickAV, scal, frz, TypeDesc.aggB, AV.cells, lenAV, getAt, loadCell, loadCells, res, resL, intern, internL, putCells, ownR, ownRL, drops, flat, kill, killL, killN, killNL, clean, keep, refsL, refs, once, place, renL, ren, ctx, G, resOk, resVars, resVar, ownR, ownRL, pack, viewEs, bndOf, appX, appY, List.range, List.range.loop, ty2, ty3, ty4, ty5, ty9, ty12, ty21, ty22, ty23, ty28, ty33, ty38, ty39, ty49, ty52, ty64, ty80, ty93, ty103, ty107, ty110, ty116, ty126, eqT, cellInts, bld, partOk, ints, hb, hn]
  refine awp_loop_of (ctx_ok eqOk .nil) mixed (live := [true, false, true, true, true, false, false, false, false, false, false, true]) [true, false, true, true, true] (α := {k : Nat // k ≤ xs.length})
    (fun k => ⟨[ints nl xs, .junk, .sl true 1 [], .ref 0 [] 0 xs.length, int k.1] ++ List.replicate 17 .junk, [⟨true, .sl false 1 (filled int (int 0) xs k.1)⟩]⟩) (fun k => xs.length - k.1) ⟨0, by omega⟩
    (by simp [sub, slotsLe, clean, keep, refsL, refs, once, place, renL, ren, List.replicate, int, bool, ints, filled_zero]) ?_
  rintro ⟨k, hk⟩
  by_cases h : k < xs.length
  · have hl := filled_len (f := int) (z := AV.v (.int .i64 0)) hk
    have hg := filled_get (f := int) (z := AV.v (.int .i64 0)) h
    have hg' := filled_get' (f := int) (z := AV.v (.int .i64 0)) h
    simp [awp_skip, awp_seq, awp_block, awp_exit, awp_ret, awp_loop, awp_region, awp_cond, contS_normal, contS_exit, contS_ret, inB_normal, inB_exit, inB_ret, loopS_normal, loopS_exit, loopS_ret, doneS_normal, doneS_ret, regS_some, condS_bool, bindS_some, rrun_nil, rrun_cons, outD_some, stepG_some, rstep_eq, callOut_some, callOut_none, mutCall_none, dC_false, dC_true, noM_mk, callV_fn, aop_call, take_map_all, guardOk, aop, ev, putD, ofV, ofV1, Value.oneCell', asNat, abin, aun, pickAV, scal, frz, TypeDesc.aggB, AV.cells, lenAV, getAt, loadCell, loadCells, res, resL, intern, internL, putCells, ownR, ownRL, drops, flat, kill, killL, killN, killNL, clean, keep, refsL, refs, once, place, renL, ren, ctx, G, resOk, resVars, resVar, ownR, ownRL, pack, viewEs, bndOf, appX, appY, List.range, List.range.loop, ty2, ty3, ty4, ty5, ty9, ty12, ty21, ty22, ty23, ty28, ty33, ty38, ty39, ty49, ty52, ty64, ty80, ty93, ty103, ty107, ty110, ty116, ty126, eqT, cellInts, bld, partOk, ints, int, h, List.replicate, hl, hg, hg']
    refine ⟨⟨k + 1, h⟩, ?_, by simp; omega⟩
    have hset := filled_set (f := int) (z := AV.v (.int .i64 0)) h
    simp only [int] at hset
    simp [sub, slotsLe, clean, keep, refsL, refs, once, place, renL, ren, List.replicate, int, bool, ints, hset, hl]
    exact wrapI (by omega) (by omega)
  · have hk' : k = xs.length := by omega
    subst hk'
    simp [awp_skip, awp_seq, awp_block, awp_exit, awp_ret, awp_loop, awp_region, awp_cond, contS_normal, contS_exit, contS_ret, inB_normal, inB_exit, inB_ret, loopS_normal, loopS_exit, loopS_ret, doneS_normal, doneS_ret, regS_some, condS_bool, bindS_some, rrun_nil, rrun_cons, outD_some, stepG_some, rstep_eq, callOut_some, callOut_none, mutCall_none, dC_false, dC_true, noM_mk, callV_fn, aop_call, take_map_all, guardOk, aop, ev, putD, ofV, ofV1, Value.oneCell', asNat, abin, aun, pickAV, scal, frz, TypeDesc.aggB, AV.cells, lenAV, getAt, loadCell, loadCells, res, resL, intern, internL, putCells, ownR, ownRL, drops, flat, kill, killL, killN, killNL, clean, keep, refsL, refs, once, place, renL, ren, ctx, G, resOk, resVars, resVar, ownR, ownRL, pack, viewEs, bndOf, appX, appY, List.range, List.range.loop, ty2, ty3, ty4, ty5, ty9, ty12, ty21, ty22, ty23, ty28, ty33, ty38, ty39, ty49, ty52, ty64, ty80, ty93, ty103, ty107, ty110, ty116, ty126, eqT, cellInts, bld, partOk, ints, int, h, List.replicate, filled_all]

noncomputable def mSzI : List AV → Option AV := mk (fun p => p.2.1.length < 2 ^ 63 ∧ 0 ≤ p.2.2 ∧ p.2.2 ≤ 2 ^ 62) (fun (p : Bool × List Int × Int) => [ints p.1 p.2.1, int p.2.2]) (fun p => int (if p.2.2 < p.2.1.length then -1 else p.2.2 - p.2.1.length))
theorem mSzI_at (nl : Bool) (xs : List Int) (l : Int) (h : xs.length < 2 ^ 63) (h1 : 0 ≤ l) (h2 : l ≤ 2 ^ 62) : mSzI [.sl nl 1 (xs.map int), .v (.int .i64 l)] = some (.v (.int .i64 (if l < xs.length then -1 else l - xs.length))) :=
  mk_eq (enc := fun (p : Bool × List Int × Int) => [ints p.1 p.2.1, int p.2.2]) (x := (nl, xs, l)) (by rintro ⟨x, x', x''⟩ ⟨y, y', y''⟩ h; simp [ints, int_inj, map_int_inj] at h; simp [h]) ⟨h, h1, h2⟩

theorem szIntS_ok : FnOk Try.prog 56 mSzI := by
  refine mk_ok fun ⟨nl, xs, l⟩ ⟨h1, h2, h3⟩ => ?_
  simp only at h1 h2 h3
  refine callOk_of_awp (ctx_ok eqOk .nil) mixed (live := [true, true, false, false, true, false, false, false, false, false, true]) Try.func56 rfl (by kernel_rfl) (by kernel_rfl) fun w0 => ?_
  have hw : IntKind.i64.wrap (l - xs.length) = l - xs.length := wrapI (by omega) (by omega)
  by_cases h : l < xs.length
  · have h' : l - xs.length < 0 := by omega
    simp [Try.f56, awp_skip, awp_seq, awp_block, awp_exit, awp_ret, awp_loop, awp_region, awp_cond, contS_normal, contS_exit, contS_ret, inB_normal, inB_exit, inB_ret, loopS_normal, loopS_exit, loopS_ret, doneS_normal, doneS_ret, regS_some, condS_bool, bindS_some, rrun_nil, rrun_cons, outD_some, stepG_some, rstep_eq, callOut_some, callOut_none, mutCall_none, dC_false, dC_true, noM_mk, callV_fn, aop_call, take_map_all, guardOk, aop, ev, putD, ofV, ofV1, Value.oneCell', asNat, abin, aun, pickAV, scal, frz, TypeDesc.aggB, AV.cells, lenAV, getAt, loadCell, loadCells, res, resL, intern, internL, putCells, ownR, ownRL, drops, flat, kill, killL, killN, killNL, clean, keep, refsL, refs, once, place, renL, ren, ctx, G, resOk, resVars, resVar, ownR, ownRL, pack, viewEs, bndOf, appX, appY, List.range, List.range.loop, ty2, ty3, ty4, ty5, ty9, ty12, ty21, ty22, ty23, ty28, ty33, ty38, ty39, ty49, ty52, ty64, ty80, ty93, ty103, ty107, ty110, ty116, ty126, eqT, cellInts, bld, partOk, ints, int, hw, h, h']
  · have h' : ¬ l - xs.length < 0 := by omega
    simp [Try.f56, awp_skip, awp_seq, awp_block, awp_exit, awp_ret, awp_loop, awp_region, awp_cond, contS_normal, contS_exit, contS_ret, inB_normal, inB_exit, inB_ret, loopS_normal, loopS_exit, loopS_ret, doneS_normal, doneS_ret, regS_some, condS_bool, bindS_some, rrun_nil, rrun_cons, outD_some, stepG_some, rstep_eq, callOut_some, callOut_none, mutCall_none, dC_false, dC_true, noM_mk, callV_fn, aop_call, take_map_all, guardOk, aop, ev, putD, ofV, ofV1, Value.oneCell', asNat, abin, aun, pickAV, scal, frz, TypeDesc.aggB, AV.cells, lenAV, getAt, loadCell, loadCells, res, resL, intern, internL, putCells, ownR, ownRL, drops, flat, kill, killL, killN, killNL, clean, keep, refsL, refs, once, place, renL, ren, ctx, G, resOk, resVars, resVar, ownR, ownRL, pack, viewEs, bndOf, appX, appY, List.range, List.range.loop, ty2, ty3, ty4, ty5, ty9, ty12, ty21, ty22, ty23, ty28, ty33, ty38, ty39, ty49, ty52, ty64, ty80, ty93, ty103, ty107, ty110, ty116, ty126, eqT, cellInts, bld, partOk, ints, int, hw, h, h']

noncomputable def mEqIs : List AV → Option AV := mk (fun p => p.1.2.length ≤ 2 ^ 40 ∧ p.2.2.length ≤ 2 ^ 40) (fun (p : (Bool × List Int) × (Bool × List Int)) => [ints p.1.1 p.1.2, ints p.2.1 p.2.2]) (fun p => bool (decide (p.1.2 = p.2.2)))
theorem mEqIs_at (nl nl' : Bool) (xs ys : List Int) (h : xs.length ≤ 2 ^ 40) (h' : ys.length ≤ 2 ^ 40) : mEqIs [.sl nl 1 (xs.map int), .sl nl' 1 (ys.map int)] = some (.v (.bool (decide (xs = ys)))) :=
  mk_eq (enc := fun (p : (Bool × List Int) × (Bool × List Int)) => [ints p.1.1 p.1.2, ints p.2.1 p.2.2]) (x := ((nl, xs), (nl', ys))) (by rintro ⟨⟨x, x'⟩, ⟨x'', x3⟩⟩ ⟨⟨y, y'⟩, ⟨y'', y3⟩⟩ h; simp [ints, map_int_inj] at h; simp [h]) ⟨h, h'⟩

set_option maxHeartbeats 1000000 in
theorem eqIntS_ok : FnOk Try.prog 26 mEqIs := by
  refine mk_ok fun ⟨⟨nl, xs⟩, ⟨nl', ys⟩⟩ ⟨hp, hp'⟩ => ?_
  simp only at hp hp'
  refine callOk_of_awp (ctx_ok eqOk .nil) mixed (live := [true, true, false, false, true, true, false, false, false, false, true, false, false, false, true, false, false, false, false, false, false, false, false, false, false, true]) Try.func26 rfl (by kernel_rfl) (by kernel_rfl) fun w0 => ?_
  by_cases hl : xs.length = ys.length
  · simp [Try.f26, awp_skip, awp_seq, awp_block, awp_exit, awp_ret, awp_loop, awp_region, awp_cond, contS_normal, contS_exit, contS_ret, inB_normal, inB_exit, inB_ret, loopS_normal, loopS_exit, loopS_ret, doneS_normal, doneS_ret, regS_some, condS_bool, bindS_some, rrun_nil, rrun_cons, outD_some, stepG_some, rstep_eq, callOut_some, callOut_none, mutCall_none, dC_false, dC_true, noM_mk, callV_fn, aop_call, take_map_all, guardOk, aop, ev, putD, ofV, ofV1, Value.oneCell', asNat, abin, aun, pickAV, scal, frz, TypeDesc.aggB, AV.cells, lenAV, getAt, loadCell, loadCells, res, resL, intern, internL, putCells, ownR, ownRL, drops, flat, kill, killL, killN, killNL, clean, keep, refsL, refs, once, place, renL, ren, ctx, G, resOk, resVars, resVar, ownR, ownRL, pack, viewEs, bndOf, appX, appY, List.range, List.range.loop, ty2, ty3, ty4, ty5, ty9, ty12, ty21, ty22, ty23, ty28, ty33, ty38, ty39, ty49, ty52, ty64, ty80, ty93, ty103, ty107, ty110, ty116, ty126, eqT, cellInts, bld, partOk, ints, hl]
    refine awp_loop_of (ctx_ok eqOk .nil) mixed (live := [true, true, false, false, true, true, false, false, false, false, true, false, false, false, true, false, false, false, false, false, false, false, false, false, false, true]) [true, true, false, false, true, true] (α := {k : Nat // k ≤ ys.length ∧ xs.take k = ys.take k})
      (fun k => ⟨[ints nl xs, ints nl' ys, .junk, .junk, bool false, int k.1] ++ List.replicate 20 .junk, []⟩) (fun k => ys.length - k.1) ⟨0, by omega, by simp⟩
      (by simp [sub, slotsLe, clean, keep, refsL, refs, once, place, renL, ren, List.replicate, int, bool, ints]) ?_
    rintro ⟨k, hk, he⟩
    by_cases h : k < ys.length
    · have h' : k < xs.length := by omega
      by_cases hx : xs[k] = ys[k]
      · simp [awp_skip, awp_seq, awp_block, awp_exit, awp_ret, awp_loop, awp_region, awp_cond, contS_normal, contS_exit, contS_ret, inB_normal, inB_exit, inB_ret, loopS_normal, loopS_exit, loopS_ret, doneS_normal, doneS_ret, regS_some, condS_bool, bindS_some, rrun_nil, rrun_cons, outD_some, stepG_some, rstep_eq, callOut_some, callOut_none, mutCall_none, dC_false, dC_true, noM_mk, callV_fn, aop_call, take_map_all, guardOk, aop, ev, putD, ofV, ofV1, Value.oneCell', asNat, abin, aun, pickAV, scal, frz, TypeDesc.aggB, AV.cells, lenAV, getAt, loadCell, loadCells, res, resL, intern, internL, putCells, ownR, ownRL, drops, flat, kill, killL, killN, killNL, clean, keep, refsL, refs, once, place, renL, ren, ctx, G, resOk, resVars, resVar, ownR, ownRL, pack, viewEs, bndOf, appX, appY, List.range, List.range.loop, ty2, ty3, ty4, ty5, ty9, ty12, ty21, ty22, ty23, ty28, ty33, ty38, ty39, ty49, ty52, ty64, ty80, ty93, ty103, ty107, ty110, ty116, ty126, eqT, cellInts, bld, partOk, ints, int, bool, h, h', hl, List.replicate, hx]
        refine ⟨⟨k + 1, h, (take_eq_succ h' h).2 ⟨he, hx⟩⟩, ?_, by simp; omega⟩
        simp [sub, slotsLe, clean, keep, refsL, refs, once, place, renL, ren, List.replicate, int, bool, ints]
        exact wrapI (by omega) (by omega)
      · have hx' : (xs[k] != ys[k]) = true := by simpa using hx
        simp [awp_skip, awp_seq, awp_block, awp_exit, awp_ret, awp_loop, awp_region, awp_cond, contS_normal, contS_exit, contS_ret, inB_normal, inB_exit, inB_ret, loopS_normal, loopS_exit, loopS_ret, doneS_normal, doneS_ret, regS_some, condS_bool, bindS_some, rrun_nil, rrun_cons, outD_some, stepG_some, rstep_eq, callOut_some, callOut_none, mutCall_none, dC_false, dC_true, noM_mk, callV_fn, aop_call, take_map_all, guardOk, aop, ev, putD, ofV, ofV1, Value.oneCell', asNat, abin, aun, pickAV, scal, frz, TypeDesc.aggB, AV.cells, lenAV, getAt, loadCell, loadCells, res, resL, intern, internL, putCells, ownR, ownRL, drops, flat, kill, killL, killN, killNL, clean, keep, refsL, refs, once, place, renL, ren, ctx, G, resOk, resVars, resVar, ownR, ownRL, pack, viewEs, bndOf, appX, appY, List.range, List.range.loop, ty2, ty3, ty4, ty5, ty9, ty12, ty21, ty22, ty23, ty28, ty33, ty38, ty39, ty49, ty52, ty64, ty80, ty93, ty103, ty107, ty110, ty116, ty126, eqT, cellInts, bld, partOk, ints, int, bool, h, h', hl, List.replicate, hx, hx']
        intro e; subst e; exact hx rfl
    · have hk' : k = ys.length := by omega
      subst hk'
      simp [awp_skip, awp_seq, awp_block, awp_exit, awp_ret, awp_loop, awp_region, awp_cond, contS_normal, contS_exit, contS_ret, inB_normal, inB_exit, inB_ret, loopS_normal, loopS_exit, loopS_ret, doneS_normal, doneS_ret, regS_some, condS_bool, bindS_some, rrun_nil, rrun_cons, outD_some, stepG_some, rstep_eq, callOut_some, callOut_none, mutCall_none, dC_false, dC_true, noM_mk, callV_fn, aop_call, take_map_all, guardOk, aop, ev, putD, ofV, ofV1, Value.oneCell', asNat, abin, aun, pickAV, scal, frz, TypeDesc.aggB, AV.cells, lenAV, getAt, loadCell, loadCells, res, resL, intern, internL, putCells, ownR, ownRL, drops, flat, kill, killL, killN, killNL, clean, keep, refsL, refs, once, place, renL, ren, ctx, G, resOk, resVars, resVar, ownR, ownRL, pack, viewEs, bndOf, appX, appY, List.range, List.range.loop, ty2, ty3, ty4, ty5, ty9, ty12, ty21, ty22, ty23, ty28, ty33, ty38, ty39, ty49, ty52, ty64, ty80, ty93, ty103, ty107, ty110, ty116, ty126, eqT, cellInts, bld, partOk, ints, int, bool, h, hl, List.replicate]
      rw [List.take_of_length_le (by omega), List.take_of_length_le (by omega)] at he
      exact he
  · have hl' : ((xs.length : Int) != ys.length) = true := by simp; omega
    simp [Try.f26, awp_skip, awp_seq, awp_block, awp_exit, awp_ret, awp_loop, awp_region, awp_cond, contS_normal, contS_exit, contS_ret, inB_normal, inB_exit, inB_ret, loopS_normal, loopS_exit, loopS_ret, doneS_normal, doneS_ret, regS_some, condS_bool, bindS_some, rrun_nil, rrun_cons, outD_some, stepG_some, rstep_eq, callOut_some, callOut_none, mutCall_none, dC_false, dC_true, noM_mk, callV_fn, aop_call, take_map_all, guardOk, aop, ev, putD, ofV, ofV1, Value.oneCell', asNat, abin, aun, pickAV, scal, frz, TypeDesc.aggB, AV.cells, lenAV, getAt, loadCell, loadCells, res, resL, intern, internL, putCells, ownR, ownRL, drops, flat, kill, killL, killN, killNL, clean, keep, refsL, refs, once, place, renL, ren, ctx, G, resOk, resVars, resVar, ownR, ownRL, pack, viewEs, bndOf, appX, appY, List.range, List.range.loop, ty2, ty3, ty4, ty5, ty9, ty12, ty21, ty22, ty23, ty28, ty33, ty38, ty39, ty49, ty52, ty64, ty80, ty93, ty103, ty107, ty110, ty116, ty126, eqT, cellInts, bld, partOk, ints, hl, hl', bool]
    intro e; rw [e] at hl; exact hl rfl

end Go.Proofs.Ytehfjhenilkofaa.Ax
