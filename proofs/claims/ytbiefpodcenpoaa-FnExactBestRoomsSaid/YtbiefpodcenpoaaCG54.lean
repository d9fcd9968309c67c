/-
  Contracts: slices.Clone, the lists, the best award of the program. No condition.
-/
import Derived.Test.YtbiefpodcenpoaaCG52
import Derived.Test.YtbiefpodcenpoaaCG53
import Derived.Test.YtbiefpodcenpoaaCG4
namespace Go.Proofs.Ytbiefpodcenpoaa.Ax
open Go Go.RowKit
set_option linter.unusedSimpArgs false

noncomputable def mClone : List AV → Option AV := mk (fun p => p.2.length ≤ 1000000) (fun (p : (Bool) × (List Int)) => [ints p.1 p.2]) (fun p => ints p.1 p.2)
theorem mClone_at (nl : Bool) (xs : List Int) (hpre : xs.length ≤ 1000000) : mClone [.sl nl 1 (xs.map int)] = some (.sl nl 1 ((xs).map int)) :=
  mk_eq (enc := fun (p : (Bool) × (List Int)) => [ints p.1 p.2]) (x := (nl, xs)) (by rintro ⟨a0, a1⟩ ⟨b0, b1⟩ h; simp [ints, intss, int, bool, row, frac, fracs, map_int_inj, map_row_inj, frac_inj, map_frac_inj] at h; simp [h]) hpre

theorem clone_ok : FnOk Try.prog 74 mClone := by
  refine mk_ok fun ⟨nl, xs⟩ hn => ?_
  simp only at hn
  have hG : FnsOk Try.prog [] := .nil
  refine callOk_awp (ctx_ok eqOk hG) mixed (live := [true, false, true, false, true]) (dt := []) Try.func74 rfl (by kernel_rfl) (by kernel_rfl) fun w0 hlens => ?_
  have hnil := (lens_ints.1 hlens.1).2
  clear hlens
  have h1 : xs.length ≤ 4611686018427387904 := by omega
  have h2 : xs.length * 8 ≤ 140737488355328 := by omega
  cases nl with
  | true =>
    have : xs = [] := hnil rfl
    subst this
    simp (config := {contextual := true}) [Try.f74, awp_skip, awp_seq, awp_block, awp_exit, awp_ret, awp_loop, awp_rangeF, awp_region, awp_cond, contS_normal, contS_exit, contS_ret, inB_normal, inB_exit, inB_ret, loopS_normal, loopS_exit, loopS_ret, doneS_normal, doneS_ret, regS_some, condS_bool, bindS_some, rrun_nil, rrun_cons, outD_some, stepG_some, rstep_eq, callOut_some, callOut_none, mutCall_none, movCall_none, frzCall_none, frzCall_some, alt_none, alt_some, regrun_false, regrun_true, noLd_dt, mkLd_dt, frzLd_dt, ldR_dt, dtGet, rdraw_eq, rrunD_nil, rrunD_cons, contD_eq, rstepD_eq, outDr_some, outC_zero, outC_succ, needs, chk, stR, opR, jk, jkL, meets, shf, nums, sets, Op.operands, Call.operands, noM_mk, callV_fn, aop_call, take_map_all, guardOk, aop, ev, putD, ofV, ofV1, Value.oneCell', asNat, abin, aun, pickAV, scal, frz, TypeDesc.aggB, AV.cells, lenAV, getAt, loadCell, loadCells, res, resL, intern, internL, putCells, ownR, ownRL, ownV, drops, flat, kill, killL, killN, killNL, clean, keep, refsL, refs, once, place, renL, ren, ctx, G, resOk, resVars, resVar, ownR, ownRL, pack, viewEs, bndOf, appX, appY, List.range, List.range.loop, ty2, ty3, ty4, ty5, ty9, ty12, ty21, ty22, ty23, ty28, ty33, ty44, ty50, ty61, ty72, ty73, ty83, ty89, ty106, ty110, ty113, ty119, ty129, eqT, cellInts, bld, partOk, nilAV, bytesOf, regS_ite, allS_map, allS_v, allS_rep, pickAV_bool, nn1, tn1, nz1, nz1', lt1, sub, slotsLe, rngS_normal, rngS_exit, rngS_ret, Bool.cond_true, Bool.cond_false, ints, intss, int, bool, row, frac, fracs, ← List.map_take, ← List.map_drop, h1, h2]
  | false => simp (config := {contextual := true}) [Try.f74, awp_skip, awp_seq, awp_block, awp_exit, awp_ret, awp_loop, awp_rangeF, awp_region, awp_cond, contS_normal, contS_exit, contS_ret, inB_normal, inB_exit, inB_ret, loopS_normal, loopS_exit, loopS_ret, doneS_normal, doneS_ret, regS_some, condS_bool, bindS_some, rrun_nil, rrun_cons, outD_some, stepG_some, rstep_eq, callOut_some, callOut_none, mutCall_none, movCall_none, frzCall_none, frzCall_some, alt_none, alt_some, regrun_false, regrun_true, noLd_dt, mkLd_dt, frzLd_dt, ldR_dt, dtGet, rdraw_eq, rrunD_nil, rrunD_cons, contD_eq, rstepD_eq, outDr_some, outC_zero, outC_succ, needs, chk, stR, opR, jk, jkL, meets, shf, nums, sets, Op.operands, Call.operands, noM_mk, callV_fn, aop_call, take_map_all, guardOk, aop, ev, putD, ofV, ofV1, Value.oneCell', asNat, abin, aun, pickAV, scal, frz, TypeDesc.aggB, AV.cells, lenAV, getAt, loadCell, loadCells, res, resL, intern, internL, putCells, ownR, ownRL, ownV, drops, flat, kill, killL, killN, killNL, clean, keep, refsL, refs, once, place, renL, ren, ctx, G, resOk, resVars, resVar, ownR, ownRL, pack, viewEs, bndOf, appX, appY, List.range, List.range.loop, ty2, ty3, ty4, ty5, ty9, ty12, ty21, ty22, ty23, ty28, ty33, ty44, ty50, ty61, ty72, ty73, ty83, ty89, ty106, ty110, ty113, ty119, ty129, eqT, cellInts, bld, partOk, nilAV, bytesOf, regS_ite, allS_map, allS_v, allS_rep, pickAV_bool, nn1, tn1, nz1, nz1', lt1, sub, slotsLe, rngS_normal, rngS_exit, rngS_ret, Bool.cond_true, Bool.cond_false, ints, intss, int, bool, row, frac, fracs, ← List.map_take, ← List.map_drop, h1, h2]

noncomputable def mLists : List AV → Option AV := mk (fun _ => True) (fun (p : Nat × Int × Int) => [int (p.1 : Int), int p.2.1, int p.2.2]) (fun p => .fn 139 [.fp (int p.2.1) 0, .fp (int (p.1 : Int)) 0, .fp (int p.2.2) 0])
theorem mLists_at (n : Nat) (low high : Int) : mLists [.v (.int .i64 (n : Int)), .v (.int .i64 low), .v (.int .i64 high)] = some (.fn 139 [.fp (.v (.int .i64 low)) 0, .fp (.v (.int .i64 (n : Int))) 0, .fp (.v (.int .i64 high)) 0]) :=
  mk_eq (enc := fun (p : Nat × Int × Int) => [int (p.1 : Int), int p.2.1, int p.2.2]) (x := (n, low, high)) (by rintro ⟨a, b, c⟩ ⟨d, e, f⟩ h; simp [int] at h; obtain ⟨h, rfl, rfl⟩ := h; exact (by omega : a = d) ▸ rfl) trivial

theorem lists_ok : FnFrz Try.prog 114 true mLists := by
  refine mk_frz fun ⟨n, low, high⟩ _ => ?_
  have hG : FnsOk Try.prog [] := .nil
  refine frzOk_awp (ctx_ok eqOk hG) mixed (live := [true, true, true, true, true, true, true]) (dt := []) Try.func114 rfl (by kernel_rfl) (by kernel_rfl) fun A w0 hlens => ?_
  clear hlens
  simp (config := {contextual := true}) [Try.f114, awp_skip, awp_seq, awp_block, awp_exit, awp_ret, awp_loop, awp_rangeF, awp_region, awp_cond, contS_normal, contS_exit, contS_ret, inB_normal, inB_exit, inB_ret, loopS_normal, loopS_exit, loopS_ret, doneS_normal, doneS_ret, regS_some, condS_bool, bindS_some, rrun_nil, rrun_cons, outD_some, stepG_some, rstep_eq, callOut_some, callOut_none, mutCall_none, movCall_none, frzCall_none, frzCall_some, alt_none, alt_some, regrun_false, regrun_true, noLd_dt, mkLd_dt, frzLd_dt, ldR_dt, dtGet, rdraw_eq, rrunD_nil, rrunD_cons, contD_eq, rstepD_eq, outDr_some, outC_zero, outC_succ, needs, chk, stR, opR, jk, jkL, meets, shf, nums, sets, Op.operands, Call.operands, noM_mk, callV_fn, aop_call, take_map_all, guardOk, aop, ev, putD, ofV, ofV1, Value.oneCell', asNat, abin, aun, pickAV, scal, frz, TypeDesc.aggB, AV.cells, lenAV, getAt, loadCell, loadCells, res, resL, intern, internL, putCells, ownR, ownRL, ownV, drops, flat, kill, killL, killN, killNL, clean, keep, refsL, refs, once, place, renL, ren, ctx, G, resOk, resVars, resVar, ownR, ownRL, pack, viewEs, bndOf, appX, appY, List.range, List.range.loop, ty2, ty3, ty4, ty5, ty9, ty12, ty21, ty22, ty23, ty28, ty33, ty44, ty50, ty61, ty72, ty73, ty83, ty89, ty106, ty110, ty113, ty119, ty129, eqT, cellInts, bld, partOk, nilAV, bytesOf, regS_ite, allS_map, allS_v, allS_rep, pickAV_bool, nn1, tn1, nz1, nz1', lt1, sub, slotsLe, rngS_normal, rngS_exit, rngS_ret, Bool.cond_true, Bool.cond_false, ints, intss, int, bool, row, frac, fracs, ← List.map_take, ← List.map_drop, ctxV, ctxH, GH, GM, GV, Option.map_some, doneF_normal, doneF_ret, resVarsF, resVarF, mutCall, movCall, others, setAt, setCell, List.all]

end Go.Proofs.Ytbiefpodcenpoaa.Ax
