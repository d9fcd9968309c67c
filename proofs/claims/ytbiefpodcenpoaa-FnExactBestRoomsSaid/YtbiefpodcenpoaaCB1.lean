/-
  What this seat's program says of the types that the proofs meet. No condition.
-/
import Derived.Test.YtbiefpodcenpoaaCK4
import Derived.Test.YtbiefpodcenpoaaProg
namespace Go.Proofs.Ytbiefpodcenpoaa.Ax
open Go Go.RowKit

theorem ty2 : tyOf Try.prog 2 = some ({ desc := TypeDesc.int IntKind.i64, size := 1, bytes := 8, zero := Value.int IntKind.i64 0 } : TI) := by kernel_rfl
theorem ty3 : tyOf Try.prog 3 = some ({ desc := TypeDesc.int IntKind.i64, size := 1, bytes := 8, zero := Value.int IntKind.i64 0 } : TI) := by kernel_rfl
theorem ty4 : tyOf Try.prog 4 = some ({ desc := TypeDesc.bool, size := 1, bytes := 1, zero := Value.bool false } : TI) := by kernel_rfl
theorem ty5 : tyOf Try.prog 5 = some ({ desc := TypeDesc.int IntKind.u8, size := 1, bytes := 1, zero := Value.int IntKind.u8 0 } : TI) := by kernel_rfl
theorem ty9 : tyOf Try.prog 9 = some ({ desc := TypeDesc.string, size := 1, bytes := 16, zero := Value.string ⟨#[]⟩ } : TI) := by kernel_rfl
theorem ty12 : tyOf Try.prog 12 = some ({ desc := TypeDesc.int IntKind.u64, size := 1, bytes := 8, zero := Value.int IntKind.u64 0 } : TI) := by kernel_rfl
theorem ty21 : tyOf Try.prog 21 = some ({ desc := TypeDesc.int IntKind.i32, size := 1, bytes := 4, zero := Value.int IntKind.i32 0 } : TI) := by kernel_rfl
theorem ty22 : tyOf Try.prog 22 = some ({ desc := TypeDesc.slice 33, size := 1, bytes := 24, zero := Value.slice none 0 0 } : TI) := by kernel_rfl
theorem ty23 : tyOf Try.prog 23 = some ({ desc := TypeDesc.slice 50, size := 1, bytes := 24, zero := Value.slice none 0 0 } : TI) := by kernel_rfl
theorem ty28 : tyOf Try.prog 28 = some ({ desc := TypeDesc.slice 44, size := 1, bytes := 24, zero := Value.slice none 0 0 } : TI) := by kernel_rfl
theorem ty33 : tyOf Try.prog 33 = some ({ desc := TypeDesc.slice 3, size := 1, bytes := 24, zero := Value.slice none 0 0 } : TI) := by kernel_rfl
theorem ty44 : tyOf Try.prog 44 = some ({ desc := TypeDesc.slice 73, size := 1, bytes := 24, zero := Value.slice none 0 0 } : TI) := by kernel_rfl
theorem ty50 : tyOf Try.prog 50 = some ({ desc := TypeDesc.slice 83, size := 1, bytes := 24, zero := Value.slice none 0 0 } : TI) := by kernel_rfl
theorem ty61 : tyOf Try.prog 61 = some ({ desc := TypeDesc.slice 4, size := 1, bytes := 24, zero := Value.slice none 0 0 } : TI) := by kernel_rfl
theorem ty72 : tyOf Try.prog 72 = some ({ desc := TypeDesc.struct #[{ name := "Top", type := 3, offset := 0, embedded := false, tag := "", pkgPath := "", byteOffset := 0 }, { name := "Bottom", type := 3, offset := 1, embedded := false, tag := "", pkgPath := "", byteOffset := 8 }], size := 2, bytes := 16, zero := Value.agg #[Value.int IntKind.i64 0, Value.int IntKind.i64 0] } : TI) := by kernel_rfl
theorem ty73 : tyOf Try.prog 73 = some ({ desc := TypeDesc.struct #[{ name := "Top", type := 3, offset := 0, embedded := false, tag := "", pkgPath := "", byteOffset := 0 }, { name := "Bottom", type := 3, offset := 1, embedded := false, tag := "", pkgPath := "", byteOffset := 8 }], size := 2, bytes := 16, zero := Value.agg #[Value.int IntKind.i64 0, Value.int IntKind.i64 0] } : TI) := by kernel_rfl
theorem ty83 : tyOf Try.prog 83 = some ({ desc := TypeDesc.struct #[{ name := "Top", type := 3, offset := 0, embedded := false, tag := "", pkgPath := "", byteOffset := 0 }, { name := "Bottom", type := 3, offset := 1, embedded := false, tag := "", pkgPath := "", byteOffset := 8 }], size := 2, bytes := 16, zero := Value.agg #[Value.int IntKind.i64 0, Value.int IntKind.i64 0] } : TI) := by kernel_rfl
theorem ty89 : tyOf Try.prog 89 = some ({ desc := TypeDesc.func #[91] #[] false, size := 1, bytes := 8, zero := Value.nilFunc } : TI) := by kernel_rfl
theorem ty106 : tyOf Try.prog 106 = some ({ desc := TypeDesc.int IntKind.u64, size := 1, bytes := 8, zero := Value.int IntKind.u64 0 } : TI) := by kernel_rfl
theorem ty110 : tyOf Try.prog 110 = some ({ desc := TypeDesc.int IntKind.u32, size := 1, bytes := 4, zero := Value.int IntKind.u32 0 } : TI) := by kernel_rfl
theorem ty113 : tyOf Try.prog 113 = some ({ desc := TypeDesc.int IntKind.u64, size := 1, bytes := 8, zero := Value.int IntKind.u64 0 } : TI) := by kernel_rfl
theorem ty119 : tyOf Try.prog 119 = some ({ desc := TypeDesc.array 0 16, size := 0, bytes := 0, zero := Value.agg #[] } : TI) := by kernel_rfl
theorem ty129 : tyOf Try.prog 129 = some ({ desc := TypeDesc.struct #[{ name := "Size_", type := 12, offset := 0, embedded := false, tag := "", pkgPath := "", byteOffset := 0 }, { name := "PtrBytes", type := 12, offset := 1, embedded := false, tag := "", pkgPath := "", byteOffset := 8 }, { name := "Hash", type := 110, offset := 2, embedded := false, tag := "", pkgPath := "", byteOffset := 16 }, { name := "TFlag", type := 123, offset := 3, embedded := false, tag := "", pkgPath := "", byteOffset := 20 }, { name := "Align_", type := 5, offset := 4, embedded := false, tag := "", pkgPath := "", byteOffset := 21 }, { name := "FieldAlign_", type := 5, offset := 5, embedded := false, tag := "", pkgPath := "", byteOffset := 22 }, { name := "Kind_", type := 124, offset := 6, embedded := false, tag := "", pkgPath := "", byteOffset := 23 }, { name := "Equal", type := 125, offset := 7, embedded := false, tag := "", pkgPath := "", byteOffset := 24 }, { name := "GCData", type := 126, offset := 8, embedded := false, tag := "", pkgPath := "", byteOffset := 32 }, { name := "Str", type := 127, offset := 9, embedded := false, tag := "", pkgPath := "", byteOffset := 40 }, { name := "PtrToThis", type := 128, offset := 10, embedded := false, tag := "", pkgPath := "", byteOffset := 44 }], size := 11, bytes := 48, zero := Value.agg #[Value.int IntKind.u64 0, Value.int IntKind.u64 0, Value.int IntKind.u32 0, Value.int IntKind.u8 0, Value.int IntKind.u8 0, Value.int IntKind.u8 0, Value.int IntKind.u8 0, Value.nilFunc, Value.pointer none, Value.int IntKind.i32 0, Value.int IntKind.i32 0] } : TI) := by kernel_rfl

/-- The structs of plain ints that are compared. -/
def eqT : TypeId → Option Nat := fun t => if t = 73 then some 2 else none
theorem eqOk : ∀ t n, eqT t = some n → EqOk Try.prog t n := by
  intro t n h
  unfold eqT at h
  split at h
  · rename_i e; subst e
    simp only [Option.some.injEq] at h; subst h
    exact eqOk_two (by kernel_rfl) (by kernel_rfl) Try.underlying3 Try.underlying73 (by decide) (by decide)
  · simp at h

theorem mixed : Try.prog.follows .mixedOrders = true := by kernel_rfl

end Go.Proofs.Ytbiefpodcenpoaa.Ax

/-
  Contracts of small functions. No condition.
-/
namespace Go.Proofs.Ytbiefpodcenpoaa.Ax
open Go Go.RowKit

def mWithin : List AV → Option AV
  | [.v (.int .i64 n), .v (.int .i64 lo), .v (.int .i64 hi)] => some (.v (.bool (decide (lo ≤ n) && decide (n ≤ hi))))
  | _ => none

set_option linter.unusedSimpArgs false
set_option maxHeartbeats 400000 in
theorem within_ok : FnOk Try.prog 70 mWithin := by
  intro args r h
  unfold mWithin at h
  split at h
  · rename_i n lo hi
    simp only [Option.some.injEq] at h; subst h
    refine callOk_of_awp (ctx_ok eqOk .nil) mixed (live := [true, true, true, false, false, false, true]) (dt := []) Try.func70 rfl (by kernel_rfl) (by kernel_rfl) fun w0 => ?_
    by_cases h : lo ≤ n
    · simp [Try.f70, awp_skip, awp_seq, awp_block, awp_exit, awp_ret, awp_loop, awp_rangeF, awp_region, awp_cond, contS_normal, contS_exit, contS_ret, inB_normal, inB_exit, inB_ret, loopS_normal, loopS_exit, loopS_ret, doneS_normal, doneS_ret, regS_some, condS_bool, bindS_some, rrun_nil, rrun_cons, outD_some, stepG_some, rstep_eq, callOut_some, callOut_none, mutCall_none, movCall_none, frzCall_none, frzCall_some, alt_none, alt_some, regrun_false, regrun_true, noLd_dt, mkLd_dt, frzLd_dt, ldR_dt, dtGet, rdraw_eq, rrunD_nil, rrunD_cons, contD_eq, rstepD_eq, outDr_some, outC_zero, outC_succ, needs, chk, stR, opR, jk, jkL, meets, shf, nums, sets, Op.operands, Call.operands, noM_mk, callV_fn, aop_call, take_map_all, guardOk, aop, ev, putD, ofV, ofV1, Value.oneCell', asNat, abin, aun, pickAV, scal, frz, TypeDesc.aggB, AV.cells, lenAV, getAt, loadCell, loadCells, res, resL, intern, internL, putCells, ownR, ownRL, ownV, drops, flat, kill, killL, killN, killNL, clean, keep, refsL, refs, once, place, renL, ren, ctx, G, resOk, resVars, resVar, ownR, ownRL, pack, viewEs, bndOf, appX, appY, List.range, List.range.loop, ty2, ty3, ty4, ty5, ty9, ty12, ty21, ty22, ty23, ty28, ty33, ty44, ty50, ty61, ty72, ty73, ty83, ty89, ty106, ty110, ty113, ty119, ty129, eqT, cellInts, bld, partOk, nilAV, bytesOf, h]
    · simp [Try.f70, awp_skip, awp_seq, awp_block, awp_exit, awp_ret, awp_loop, awp_rangeF, awp_region, awp_cond, contS_normal, contS_exit, contS_ret, inB_normal, inB_exit, inB_ret, loopS_normal, loopS_exit, loopS_ret, doneS_normal, doneS_ret, regS_some, condS_bool, bindS_some, rrun_nil, rrun_cons, outD_some, stepG_some, rstep_eq, callOut_some, callOut_none, mutCall_none, movCall_none, frzCall_none, frzCall_some, alt_none, alt_some, regrun_false, regrun_true, noLd_dt, mkLd_dt, frzLd_dt, ldR_dt, dtGet, rdraw_eq, rrunD_nil, rrunD_cons, contD_eq, rstepD_eq, outDr_some, outC_zero, outC_succ, needs, chk, stR, opR, jk, jkL, meets, shf, nums, sets, Op.operands, Call.operands, noM_mk, callV_fn, aop_call, take_map_all, guardOk, aop, ev, putD, ofV, ofV1, Value.oneCell', asNat, abin, aun, pickAV, scal, frz, TypeDesc.aggB, AV.cells, lenAV, getAt, loadCell, loadCells, res, resL, intern, internL, putCells, ownR, ownRL, ownV, drops, flat, kill, killL, killN, killNL, clean, keep, refsL, refs, once, place, renL, ren, ctx, G, resOk, resVars, resVar, ownR, ownRL, pack, viewEs, bndOf, appX, appY, List.range, List.range.loop, ty2, ty3, ty4, ty5, ty9, ty12, ty21, ty22, ty23, ty28, ty33, ty44, ty50, ty61, ty72, ty73, ty83, ty89, ty106, ty110, ty113, ty119, ty129, eqT, cellInts, bld, partOk, nilAV, bytesOf, h]
  · simp at h

def sumW (xs : List Int) : Int := xs.foldl (fun s n => IntKind.i64.wrap (s + n)) 0

theorem sumW_succ {xs : List Int} {k : Nat} (h : k < xs.length) : sumW (xs.take (k + 1)) = IntKind.i64.wrap (sumW (xs.take k) + xs[k]) := by
  unfold sumW; rw [List.take_succ_eq_append_getElem h, List.foldl_append]; rfl

noncomputable def mSum : List AV → Option AV := mk (fun _ => True) (fun (p : Bool × List Int) => [ints p.1 p.2]) (fun p => int (sumW p.2))

theorem mSum_at (nl : Bool) (xs : List Int) : mSum [.sl nl 1 (xs.map int)] = some (.v (.int .i64 (sumW xs))) :=
  mk_eq (enc := fun (p : Bool × List Int) => [ints p.1 p.2]) (x := (nl, xs)) (by rintro ⟨a, b⟩ ⟨c, d⟩ h; simp [ints, map_int_inj] at h; simp [h]) trivial

theorem lens_ints {nl : Bool} {xs : List Int} : lens (.sl nl 1 (xs.map int)) ↔ xs.length ≤ 9223372036854775807 ∧ (nl = true → xs = []) := by
  simp [lens, lensL_map, int]

set_option maxHeartbeats 400000 in
theorem sumOf_ok : FnOk Try.prog 85 mSum := by
  refine mk_ok fun ⟨nl, xs⟩ _ => ?_
  refine callOk_awp (ctx_ok eqOk .nil) mixed (live := [true, false, true, true, false, true, true, true, true, true]) (dt := []) Try.func85 rfl (by kernel_rfl) (by kernel_rfl) fun w0 hlens => ?_
  have hpre : xs.length ≤ 9223372036854775807 := (lens_ints.1 hlens.1).1
  simp [Try.f85, awp_skip, awp_seq, awp_block, awp_exit, awp_ret, awp_loop, awp_rangeF, awp_region, awp_cond, contS_normal, contS_exit, contS_ret, inB_normal, inB_exit, inB_ret, loopS_normal, loopS_exit, loopS_ret, doneS_normal, doneS_ret, regS_some, condS_bool, bindS_some, rrun_nil, rrun_cons, outD_some, stepG_some, rstep_eq, callOut_some, callOut_none, mutCall_none, movCall_none, frzCall_none, frzCall_some, alt_none, alt_some, regrun_false, regrun_true, noLd_dt, mkLd_dt, frzLd_dt, ldR_dt, dtGet, rdraw_eq, rrunD_nil, rrunD_cons, contD_eq, rstepD_eq, outDr_some, outC_zero, outC_succ, needs, chk, stR, opR, jk, jkL, meets, shf, nums, sets, Op.operands, Call.operands, noM_mk, callV_fn, aop_call, take_map_all, guardOk, aop, ev, putD, ofV, ofV1, Value.oneCell', asNat, abin, aun, pickAV, scal, frz, TypeDesc.aggB, AV.cells, lenAV, getAt, loadCell, loadCells, res, resL, intern, internL, putCells, ownR, ownRL, ownV, drops, flat, kill, killL, killN, killNL, clean, keep, refsL, refs, once, place, renL, ren, ctx, G, resOk, resVars, resVar, ownR, ownRL, pack, viewEs, bndOf, appX, appY, List.range, List.range.loop, ty2, ty3, ty4, ty5, ty9, ty12, ty21, ty22, ty23, ty28, ty33, ty44, ty50, ty61, ty72, ty73, ty83, ty89, ty106, ty110, ty113, ty119, ty129, eqT, cellInts, bld, partOk, nilAV, bytesOf, ints]
  refine awp_loop_of (ctx_ok eqOk .nil) mixed (live := [true, false, true, true, false, true, true, true, true, true]) [true, false, true, true, false, false, true, true, true] (α := {k : Nat // k ≤ xs.length})
    (fun k => ⟨[ints nl xs, .junk, int 0, int (sumW (xs.take k.1)), .junk, .junk, ints nl xs, int xs.length, int k.1, .junk, .junk, .junk, .junk, .junk, .junk, .junk, .junk], []⟩) (fun k => xs.length - k.1) ⟨0, by omega⟩ (by simp [sub, slotsLe, clean, keep, refsL, refs, once, place, renL, ren, List.replicate, int, bool, ints, int, sumW]) ?_
  rintro ⟨k, hk⟩
  by_cases h : k < xs.length
  · simp [awp_skip, awp_seq, awp_block, awp_exit, awp_ret, awp_loop, awp_rangeF, awp_region, awp_cond, contS_normal, contS_exit, contS_ret, inB_normal, inB_exit, inB_ret, loopS_normal, loopS_exit, loopS_ret, doneS_normal, doneS_ret, regS_some, condS_bool, bindS_some, rrun_nil, rrun_cons, outD_some, stepG_some, rstep_eq, callOut_some, callOut_none, mutCall_none, movCall_none, frzCall_none, frzCall_some, alt_none, alt_some, regrun_false, regrun_true, noLd_dt, mkLd_dt, frzLd_dt, ldR_dt, dtGet, rdraw_eq, rrunD_nil, rrunD_cons, contD_eq, rstepD_eq, outDr_some, outC_zero, outC_succ, needs, chk, stR, opR, jk, jkL, meets, shf, nums, sets, Op.operands, Call.operands, noM_mk, callV_fn, aop_call, take_map_all, guardOk, aop, ev, putD, ofV, ofV1, Value.oneCell', asNat, abin, aun, pickAV, scal, frz, TypeDesc.aggB, AV.cells, lenAV, getAt, loadCell, loadCells, res, resL, intern, internL, putCells, ownR, ownRL, ownV, drops, flat, kill, killL, killN, killNL, clean, keep, refsL, refs, once, place, renL, ren, ctx, G, resOk, resVars, resVar, ownR, ownRL, pack, viewEs, bndOf, appX, appY, List.range, List.range.loop, ty2, ty3, ty4, ty5, ty9, ty12, ty21, ty22, ty23, ty28, ty33, ty44, ty50, ty61, ty72, ty73, ty83, ty89, ty106, ty110, ty113, ty119, ty129, eqT, cellInts, bld, partOk, nilAV, bytesOf, ints, int, h]
    refine ⟨⟨k + 1, h⟩, ?_, by simp; omega⟩
    simp [sub, slotsLe, clean, keep, refsL, refs, once, place, renL, ren, List.replicate, int, bool, int, ints, sumW_succ h]
    rw [wrapI (by omega) (by omega)]
  · simp [awp_skip, awp_seq, awp_block, awp_exit, awp_ret, awp_loop, awp_rangeF, awp_region, awp_cond, contS_normal, contS_exit, contS_ret, inB_normal, inB_exit, inB_ret, loopS_normal, loopS_exit, loopS_ret, doneS_normal, doneS_ret, regS_some, condS_bool, bindS_some, rrun_nil, rrun_cons, outD_some, stepG_some, rstep_eq, callOut_some, callOut_none, mutCall_none, movCall_none, frzCall_none, frzCall_some, alt_none, alt_some, regrun_false, regrun_true, noLd_dt, mkLd_dt, frzLd_dt, ldR_dt, dtGet, rdraw_eq, rrunD_nil, rrunD_cons, contD_eq, rstepD_eq, outDr_some, outC_zero, outC_succ, needs, chk, stR, opR, jk, jkL, meets, shf, nums, sets, Op.operands, Call.operands, noM_mk, callV_fn, aop_call, take_map_all, guardOk, aop, ev, putD, ofV, ofV1, Value.oneCell', asNat, abin, aun, pickAV, scal, frz, TypeDesc.aggB, AV.cells, lenAV, getAt, loadCell, loadCells, res, resL, intern, internL, putCells, ownR, ownRL, ownV, drops, flat, kill, killL, killN, killNL, clean, keep, refsL, refs, once, place, renL, ren, ctx, G, resOk, resVars, resVar, ownR, ownRL, pack, viewEs, bndOf, appX, appY, List.range, List.range.loop, ty2, ty3, ty4, ty5, ty9, ty12, ty21, ty22, ty23, ty28, ty33, ty44, ty50, ty61, ty72, ty73, ty83, ty89, ty106, ty110, ty113, ty119, ty129, eqT, cellInts, bld, partOk, nilAV, bytesOf, ints, int, h]
    rw [List.take_of_length_le (by omega)]

end Go.Proofs.Ytbiefpodcenpoaa.Ax

/-
  Contracts of the functions on fractions. No condition.
-/
namespace Go.Proofs.Ytbiefpodcenpoaa.Ax
open Go Go.RowKit
set_option linter.unusedSimpArgs false

theorem mWithin_at (n lo hi : Int) : mWithin [.v (.int .i64 n), .v (.int .i64 lo), .v (.int .i64 hi)] = some (.v (.bool (decide (lo ≤ n) && decide (n ≤ hi)))) := rfl

set_option maxHeartbeats 400000 in
theorem l01In_ok : FnOk Try.prog 69 mWithin := by
  intro args r h
  unfold mWithin at h
  split at h
  · rename_i n lo hi
    simp only [Option.some.injEq] at h; subst h
    refine callOk_of_awp (ctx_ok eqOk .nil) mixed (live := [true, true, true, false, false, false, true]) (dt := []) Try.func69 rfl (by kernel_rfl) (by kernel_rfl) fun w0 => ?_
    by_cases h : lo ≤ n
    · simp [Try.f69, awp_skip, awp_seq, awp_block, awp_exit, awp_ret, awp_loop, awp_rangeF, awp_region, awp_cond, contS_normal, contS_exit, contS_ret, inB_normal, inB_exit, inB_ret, loopS_normal, loopS_exit, loopS_ret, doneS_normal, doneS_ret, regS_some, condS_bool, bindS_some, rrun_nil, rrun_cons, outD_some, stepG_some, rstep_eq, callOut_some, callOut_none, mutCall_none, movCall_none, frzCall_none, frzCall_some, alt_none, alt_some, regrun_false, regrun_true, noLd_dt, mkLd_dt, frzLd_dt, ldR_dt, dtGet, rdraw_eq, rrunD_nil, rrunD_cons, contD_eq, rstepD_eq, outDr_some, outC_zero, outC_succ, needs, chk, stR, opR, jk, jkL, meets, shf, nums, sets, Op.operands, Call.operands, noM_mk, callV_fn, aop_call, take_map_all, guardOk, aop, ev, putD, ofV, ofV1, Value.oneCell', asNat, abin, aun, pickAV, scal, frz, TypeDesc.aggB, AV.cells, lenAV, getAt, loadCell, loadCells, res, resL, intern, internL, putCells, ownR, ownRL, ownV, drops, flat, kill, killL, killN, killNL, clean, keep, refsL, refs, once, place, renL, ren, ctx, G, resOk, resVars, resVar, ownR, ownRL, pack, viewEs, bndOf, appX, appY, List.range, List.range.loop, ty2, ty3, ty4, ty5, ty9, ty12, ty21, ty22, ty23, ty28, ty33, ty44, ty50, ty61, ty72, ty73, ty83, ty89, ty106, ty110, ty113, ty119, ty129, eqT, cellInts, bld, partOk, nilAV, bytesOf, h]
    · simp [Try.f69, awp_skip, awp_seq, awp_block, awp_exit, awp_ret, awp_loop, awp_rangeF, awp_region, awp_cond, contS_normal, contS_exit, contS_ret, inB_normal, inB_exit, inB_ret, loopS_normal, loopS_exit, loopS_ret, doneS_normal, doneS_ret, regS_some, condS_bool, bindS_some, rrun_nil, rrun_cons, outD_some, stepG_some, rstep_eq, callOut_some, callOut_none, mutCall_none, movCall_none, frzCall_none, frzCall_some, alt_none, alt_some, regrun_false, regrun_true, noLd_dt, mkLd_dt, frzLd_dt, ldR_dt, dtGet, rdraw_eq, rrunD_nil, rrunD_cons, contD_eq, rstepD_eq, outDr_some, outC_zero, outC_succ, needs, chk, stR, opR, jk, jkL, meets, shf, nums, sets, Op.operands, Call.operands, noM_mk, callV_fn, aop_call, take_map_all, guardOk, aop, ev, putD, ofV, ofV1, Value.oneCell', asNat, abin, aun, pickAV, scal, frz, TypeDesc.aggB, AV.cells, lenAV, getAt, loadCell, loadCells, res, resL, intern, internL, putCells, ownR, ownRL, ownV, drops, flat, kill, killL, killN, killNL, clean, keep, refsL, refs, once, place, renL, ren, ctx, G, resOk, resVars, resVar, ownR, ownRL, pack, viewEs, bndOf, appX, appY, List.range, List.range.loop, ty2, ty3, ty4, ty5, ty9, ty12, ty21, ty22, ty23, ty28, ty33, ty44, ty50, ty61, ty72, ty73, ty83, ty89, ty106, ty110, ty113, ty119, ty129, eqT, cellInts, bld, partOk, nilAV, bytesOf, h]
  · simp at h

/-- The greatest divisor of two ints, where it stays small. -/
noncomputable def mGcd (lo : Int) : List AV → Option AV := mk (fun (p : Int × Int) => lo ≤ p.1 ∧ p.1 ≤ 4611686018427387904 ∧ lo ≤ p.2 ∧ p.2 ≤ 4611686018427387904) (fun p => [int p.1, int p.2]) (fun p => int (Int.gcd p.1 p.2))

theorem mGcd_at (lo a b : Int) (h1 : lo ≤ a) (h2 : a ≤ 4611686018427387904) (h3 : lo ≤ b) (h4 : b ≤ 4611686018427387904) : mGcd lo [.v (.int .i64 a), .v (.int .i64 b)] = some (.v (.int .i64 (Int.gcd a b))) :=
  mk_eq (enc := fun (p : Int × Int) => [int p.1, int p.2]) (x := (a, b)) (by rintro ⟨a, b⟩ ⟨c, d⟩ h; simp [int] at h; simp [h]) ⟨h1, h2, h3, h4⟩

theorem gcd_step (x y : Int) : Int.gcd y (x.tmod y) = Int.gcd x y := by
  simp only [Int.gcd, Int.natAbs_tmod]
  rw [Nat.gcd_comm x.natAbs y.natAbs, Nat.gcd_comm y.natAbs (x.natAbs % y.natAbs), ← Nat.gcd_rec]

theorem tmod_small (x y : Int) (h : y ≠ 0) : (x.tmod y).natAbs < y.natAbs := by
  rw [Int.natAbs_tmod]; exact Nat.mod_lt _ (by omega)

set_option maxHeartbeats 400000 in
theorem l02Gcd_ok : FnOk Try.prog 126 (mGcd 0) := by
  refine mk_ok fun ⟨a, b⟩ ⟨ha, ha', hb, hb'⟩ => ?_
  simp only at ha ha' hb hb'
  refine callOk_of_awp (ctx_ok eqOk .nil) mixed (live := [true, true, false, false, true, true, false, true]) (dt := []) Try.func126 rfl (by kernel_rfl) (by kernel_rfl) fun w0 => ?_
  simp [Try.f126, awp_skip, awp_seq, awp_block, awp_exit, awp_ret, awp_loop, awp_rangeF, awp_region, awp_cond, contS_normal, contS_exit, contS_ret, inB_normal, inB_exit, inB_ret, loopS_normal, loopS_exit, loopS_ret, doneS_normal, doneS_ret, regS_some, condS_bool, bindS_some, rrun_nil, rrun_cons, outD_some, stepG_some, rstep_eq, callOut_some, callOut_none, mutCall_none, movCall_none, frzCall_none, frzCall_some, alt_none, alt_some, regrun_false, regrun_true, noLd_dt, mkLd_dt, frzLd_dt, ldR_dt, dtGet, rdraw_eq, rrunD_nil, rrunD_cons, contD_eq, rstepD_eq, outDr_some, outC_zero, outC_succ, needs, chk, stR, opR, jk, jkL, meets, shf, nums, sets, Op.operands, Call.operands, noM_mk, callV_fn, aop_call, take_map_all, guardOk, aop, ev, putD, ofV, ofV1, Value.oneCell', asNat, abin, aun, pickAV, scal, frz, TypeDesc.aggB, AV.cells, lenAV, getAt, loadCell, loadCells, res, resL, intern, internL, putCells, ownR, ownRL, ownV, drops, flat, kill, killL, killN, killNL, clean, keep, refsL, refs, once, place, renL, ren, ctx, G, resOk, resVars, resVar, ownR, ownRL, pack, viewEs, bndOf, appX, appY, List.range, List.range.loop, ty2, ty3, ty4, ty5, ty9, ty12, ty21, ty22, ty23, ty28, ty33, ty44, ty50, ty61, ty72, ty73, ty83, ty89, ty106, ty110, ty113, ty119, ty129, eqT, cellInts, bld, partOk, nilAV, bytesOf, int]
  refine awp_loop_of (ctx_ok eqOk .nil) mixed (live := [true, true, false, false, true, true, false, true]) [true, true, false, false, true] (α := {p : Int × Int // 0 ≤ p.1 ∧ 0 ≤ p.2 ∧ Int.gcd p.1 p.2 = Int.gcd a b})
    (fun p => ⟨[int p.1.1, int p.1.2, .junk, .junk, int 0, .junk, .junk, .junk, .junk, .junk, .junk, .junk, .junk, .junk], []⟩) (fun p => p.1.2.toNat) ⟨(a, b), ha, hb, rfl⟩ (by simp [sub, slotsLe, clean, keep, refsL, refs, once, place, renL, ren, List.replicate, int, bool, int]) ?_
  rintro ⟨⟨x, y⟩, hx, hy, hg⟩
  simp only at hx hy hg
  by_cases h : 0 < y
  · have hne : y ≠ 0 := by omega
    simp [awp_skip, awp_seq, awp_block, awp_exit, awp_ret, awp_loop, awp_rangeF, awp_region, awp_cond, contS_normal, contS_exit, contS_ret, inB_normal, inB_exit, inB_ret, loopS_normal, loopS_exit, loopS_ret, doneS_normal, doneS_ret, regS_some, condS_bool, bindS_some, rrun_nil, rrun_cons, outD_some, stepG_some, rstep_eq, callOut_some, callOut_none, mutCall_none, movCall_none, frzCall_none, frzCall_some, alt_none, alt_some, regrun_false, regrun_true, noLd_dt, mkLd_dt, frzLd_dt, ldR_dt, dtGet, rdraw_eq, rrunD_nil, rrunD_cons, contD_eq, rstepD_eq, outDr_some, outC_zero, outC_succ, needs, chk, stR, opR, jk, jkL, meets, shf, nums, sets, Op.operands, Call.operands, noM_mk, callV_fn, aop_call, take_map_all, guardOk, aop, ev, putD, ofV, ofV1, Value.oneCell', asNat, abin, aun, pickAV, scal, frz, TypeDesc.aggB, AV.cells, lenAV, getAt, loadCell, loadCells, res, resL, intern, internL, putCells, ownR, ownRL, ownV, drops, flat, kill, killL, killN, killNL, clean, keep, refsL, refs, once, place, renL, ren, ctx, G, resOk, resVars, resVar, ownR, ownRL, pack, viewEs, bndOf, appX, appY, List.range, List.range.loop, ty2, ty3, ty4, ty5, ty9, ty12, ty21, ty22, ty23, ty28, ty33, ty44, ty50, ty61, ty72, ty73, ty83, ty89, ty106, ty110, ty113, ty119, ty129, eqT, cellInts, bld, partOk, nilAV, bytesOf, int, h, hne]
    refine ⟨⟨(y, x.tmod y), by omega, Int.tmod_nonneg _ hx, ?_⟩, ?_, ?_⟩
    · rw [gcd_step]; exact hg
    · simp [sub, slotsLe, clean, keep, refsL, refs, once, place, renL, ren, List.replicate, int, bool, int]
    · have := tmod_small x y hne; have := Int.tmod_nonneg y hx; simp only; omega
  · have : y = 0 := by omega
    subst this
    simp [awp_skip, awp_seq, awp_block, awp_exit, awp_ret, awp_loop, awp_rangeF, awp_region, awp_cond, contS_normal, contS_exit, contS_ret, inB_normal, inB_exit, inB_ret, loopS_normal, loopS_exit, loopS_ret, doneS_normal, doneS_ret, regS_some, condS_bool, bindS_some, rrun_nil, rrun_cons, outD_some, stepG_some, rstep_eq, callOut_some, callOut_none, mutCall_none, movCall_none, frzCall_none, frzCall_some, alt_none, alt_some, regrun_false, regrun_true, noLd_dt, mkLd_dt, frzLd_dt, ldR_dt, dtGet, rdraw_eq, rrunD_nil, rrunD_cons, contD_eq, rstepD_eq, outDr_some, outC_zero, outC_succ, needs, chk, stR, opR, jk, jkL, meets, shf, nums, sets, Op.operands, Call.operands, noM_mk, callV_fn, aop_call, take_map_all, guardOk, aop, ev, putD, ofV, ofV1, Value.oneCell', asNat, abin, aun, pickAV, scal, frz, TypeDesc.aggB, AV.cells, lenAV, getAt, loadCell, loadCells, res, resL, intern, internL, putCells, ownR, ownRL, ownV, drops, flat, kill, killL, killN, killNL, clean, keep, refsL, refs, once, place, renL, ren, ctx, G, resOk, resVars, resVar, ownR, ownRL, pack, viewEs, bndOf, appX, appY, List.range, List.range.loop, ty2, ty3, ty4, ty5, ty9, ty12, ty21, ty22, ty23, ty28, ty33, ty44, ty50, ty61, ty72, ty73, ty83, ty89, ty106, ty110, ty113, ty119, ty129, eqT, cellInts, bld, partOk, nilAV, bytesOf, int]
    rw [← hg]; simp [Int.gcd]; omega

set_option maxHeartbeats 400000 in
theorem gcd_ok : FnOk Try.prog 127 (mGcd (-4611686018427387904)) := by
  refine mk_ok fun ⟨a, b⟩ ⟨ha, ha', hb, hb'⟩ => ?_
  simp only at ha ha' hb hb'
  refine callOk_of_awp (ctx_ok eqOk .nil) mixed (live := [true, true, false, false, true, false, true]) (dt := [(2, ⟨[], [], []⟩)]) Try.func127 rfl (by kernel_rfl) (by kernel_rfl) fun w0 => ?_
  simp [Try.f127, awp_skip, awp_seq, awp_block, awp_exit, awp_ret, awp_loop, awp_rangeF, awp_region, awp_cond, contS_normal, contS_exit, contS_ret, inB_normal, inB_exit, inB_ret, loopS_normal, loopS_exit, loopS_ret, doneS_normal, doneS_ret, regS_some, condS_bool, bindS_some, rrun_nil, rrun_cons, outD_some, stepG_some, rstep_eq, callOut_some, callOut_none, mutCall_none, movCall_none, frzCall_none, frzCall_some, alt_none, alt_some, regrun_false, regrun_true, noLd_dt, mkLd_dt, frzLd_dt, ldR_dt, dtGet, rdraw_eq, rrunD_nil, rrunD_cons, contD_eq, rstepD_eq, outDr_some, outC_zero, outC_succ, needs, chk, stR, opR, jk, jkL, meets, shf, nums, sets, Op.operands, Call.operands, noM_mk, callV_fn, aop_call, take_map_all, guardOk, aop, ev, putD, ofV, ofV1, Value.oneCell', asNat, abin, aun, pickAV, scal, frz, TypeDesc.aggB, AV.cells, lenAV, getAt, loadCell, loadCells, res, resL, intern, internL, putCells, ownR, ownRL, ownV, drops, flat, kill, killL, killN, killNL, clean, keep, refsL, refs, once, place, renL, ren, ctx, G, resOk, resVars, resVar, ownR, ownRL, pack, viewEs, bndOf, appX, appY, List.range, List.range.loop, ty2, ty3, ty4, ty5, ty9, ty12, ty21, ty22, ty23, ty28, ty33, ty44, ty50, ty61, ty72, ty73, ty83, ty89, ty106, ty110, ty113, ty119, ty129, eqT, cellInts, bld, partOk, nilAV, bytesOf, int]
  refine awp_loop_of (ctx_ok eqOk .nil) mixed (live := [true, true, false, false, true, false, true]) [true, true, false, false, true] (α := {p : Int × Int // (-4611686018427387904 ≤ p.1 ∧ p.1 ≤ 4611686018427387904) ∧ (-4611686018427387904 ≤ p.2 ∧ p.2 ≤ 4611686018427387904) ∧ Int.gcd p.1 p.2 = Int.gcd a b})
    (fun p => ⟨[int p.1.1, int p.1.2, .junk, .junk, int 0, .junk, .junk, .junk, .junk, .junk, .junk, .junk, .junk, .junk, .junk], []⟩) (fun p => p.1.2.natAbs) ⟨(a, b), ⟨ha, ha'⟩, ⟨hb, hb'⟩, rfl⟩ (by simp [sub, slotsLe, clean, keep, refsL, refs, once, place, renL, ren, List.replicate, int, bool, int]) ?_
  rintro ⟨⟨x, y⟩, hx, hy, hg⟩
  simp only at hx hy hg
  by_cases h : y = 0
  · subst h
    simp [awp_skip, awp_seq, awp_block, awp_exit, awp_ret, awp_loop, awp_rangeF, awp_region, awp_cond, contS_normal, contS_exit, contS_ret, inB_normal, inB_exit, inB_ret, loopS_normal, loopS_exit, loopS_ret, doneS_normal, doneS_ret, regS_some, condS_bool, bindS_some, rrun_nil, rrun_cons, outD_some, stepG_some, rstep_eq, callOut_some, callOut_none, mutCall_none, movCall_none, frzCall_none, frzCall_some, alt_none, alt_some, regrun_false, regrun_true, noLd_dt, mkLd_dt, frzLd_dt, ldR_dt, dtGet, rdraw_eq, rrunD_nil, rrunD_cons, contD_eq, rstepD_eq, outDr_some, outC_zero, outC_succ, needs, chk, stR, opR, jk, jkL, meets, shf, nums, sets, Op.operands, Call.operands, noM_mk, callV_fn, aop_call, take_map_all, guardOk, aop, ev, putD, ofV, ofV1, Value.oneCell', asNat, abin, aun, pickAV, scal, frz, TypeDesc.aggB, AV.cells, lenAV, getAt, loadCell, loadCells, res, resL, intern, internL, putCells, ownR, ownRL, ownV, drops, flat, kill, killL, killN, killNL, clean, keep, refsL, refs, once, place, renL, ren, ctx, G, resOk, resVars, resVar, ownR, ownRL, pack, viewEs, bndOf, appX, appY, List.range, List.range.loop, ty2, ty3, ty4, ty5, ty9, ty12, ty21, ty22, ty23, ty28, ty33, ty44, ty50, ty61, ty72, ty73, ty83, ty89, ty106, ty110, ty113, ty119, ty129, eqT, cellInts, bld, partOk, nilAV, bytesOf, int]
    rw [wrapI (by omega) (by omega), ← hg]
    simp [Int.gcd]; omega
  · simp [awp_skip, awp_seq, awp_block, awp_exit, awp_ret, awp_loop, awp_rangeF, awp_region, awp_cond, contS_normal, contS_exit, contS_ret, inB_normal, inB_exit, inB_ret, loopS_normal, loopS_exit, loopS_ret, doneS_normal, doneS_ret, regS_some, condS_bool, bindS_some, rrun_nil, rrun_cons, outD_some, stepG_some, rstep_eq, callOut_some, callOut_none, mutCall_none, movCall_none, frzCall_none, frzCall_some, alt_none, alt_some, regrun_false, regrun_true, noLd_dt, mkLd_dt, frzLd_dt, ldR_dt, dtGet, rdraw_eq, rrunD_nil, rrunD_cons, contD_eq, rstepD_eq, outDr_some, outC_zero, outC_succ, needs, chk, stR, opR, jk, jkL, meets, shf, nums, sets, Op.operands, Call.operands, noM_mk, callV_fn, aop_call, take_map_all, guardOk, aop, ev, putD, ofV, ofV1, Value.oneCell', asNat, abin, aun, pickAV, scal, frz, TypeDesc.aggB, AV.cells, lenAV, getAt, loadCell, loadCells, res, resL, intern, internL, putCells, ownR, ownRL, ownV, drops, flat, kill, killL, killN, killNL, clean, keep, refsL, refs, once, place, renL, ren, ctx, G, resOk, resVars, resVar, ownR, ownRL, pack, viewEs, bndOf, appX, appY, List.range, List.range.loop, ty2, ty3, ty4, ty5, ty9, ty12, ty21, ty22, ty23, ty28, ty33, ty44, ty50, ty61, ty72, ty73, ty83, ty89, ty106, ty110, ty113, ty119, ty129, eqT, cellInts, bld, partOk, nilAV, bytesOf, int, h]
    refine ⟨⟨(y, x.tmod y), hy, ?_, ?_⟩, ?_, ?_⟩
    · have := tmod_small x y h; simp only; omega
    · rw [gcd_step]; exact hg
    · simp [sub, slotsLe, clean, keep, refsL, refs, once, place, renL, ren, List.replicate, int, bool, int]
    · exact tmod_small x y h

def frac (f : Int × Int) : AV := .agg [.v (.int .i64 f.1), .v (.int .i64 f.2)]
def fracs (nl : Bool) (xs : List (Int × Int)) : AV := .sl nl 2 (xs.map frac)

theorem frac_inj {a b : Int × Int} : frac a = frac b ↔ a = b := by
  obtain ⟨a, a'⟩ := a; obtain ⟨b, b'⟩ := b; simp [frac]
theorem map_frac_inj {a b : List (Int × Int)} : a.map frac = b.map frac ↔ a = b := by
  constructor
  · intro h; exact (List.map_inj_right (fun x y => frac_inj.1)).1 h
  · rintro rfl; rfl

/-- A valid fraction. -/
def fracOk (f : Int × Int) : Bool := (decide (-1000000000 ≤ f.1) && decide (f.1 ≤ 1000000000)) && (decide (1 ≤ f.2) && decide (f.2 ≤ 1000000000)) && decide (Int.gcd f.1 f.2 = 1)

noncomputable def mFracOk : List AV → Option AV := mk (fun _ => True) (fun (f : Int × Int) => [frac f]) (fun f => bool (fracOk f))
theorem mFracOk_at (t b : Int) : mFracOk [.agg [.v (.int .i64 t), .v (.int .i64 b)]] = some (.v (.bool (fracOk (t, b)))) :=
  mk_eq (enc := fun f => [frac f]) (x := (t, b)) (by intro x y h; simp [frac_inj] at h; simp [h]) trivial

set_option maxHeartbeats 1000000 in
theorem implFractionOk_ok : FnOk Try.prog 128 mFracOk := by
  refine mk_ok fun ⟨t, b⟩ _ => ?_
  have hG : FnsOk Try.prog [(70, mWithin), (127, mGcd (-4611686018427387904))] := .cons within_ok (.cons gcd_ok .nil)
  refine callOk_of_awp (ctx_ok eqOk hG) mixed (live := [true, true, true]) (dt := []) Try.func128 rfl (by kernel_rfl) (by kernel_rfl) fun w0 => ?_
  by_cases h1 : -1000000000 ≤ t ∧ t ≤ 1000000000
  · by_cases h2 : 1 ≤ b ∧ b ≤ 1000000000
    · simp [Try.f128, awp_skip, awp_seq, awp_block, awp_exit, awp_ret, awp_loop, awp_rangeF, awp_region, awp_cond, contS_normal, contS_exit, contS_ret, inB_normal, inB_exit, inB_ret, loopS_normal, loopS_exit, loopS_ret, doneS_normal, doneS_ret, regS_some, condS_bool, bindS_some, rrun_nil, rrun_cons, outD_some, stepG_some, rstep_eq, callOut_some, callOut_none, mutCall_none, movCall_none, frzCall_none, frzCall_some, alt_none, alt_some, regrun_false, regrun_true, noLd_dt, mkLd_dt, frzLd_dt, ldR_dt, dtGet, rdraw_eq, rrunD_nil, rrunD_cons, contD_eq, rstepD_eq, outDr_some, outC_zero, outC_succ, needs, chk, stR, opR, jk, jkL, meets, shf, nums, sets, Op.operands, Call.operands, noM_mk, callV_fn, aop_call, take_map_all, guardOk, aop, ev, putD, ofV, ofV1, Value.oneCell', asNat, abin, aun, pickAV, scal, frz, TypeDesc.aggB, AV.cells, lenAV, getAt, loadCell, loadCells, res, resL, intern, internL, putCells, ownR, ownRL, ownV, drops, flat, kill, killL, killN, killNL, clean, keep, refsL, refs, once, place, renL, ren, ctx, G, resOk, resVars, resVar, ownR, ownRL, pack, viewEs, bndOf, appX, appY, List.range, List.range.loop, ty2, ty3, ty4, ty5, ty9, ty12, ty21, ty22, ty23, ty28, ty33, ty44, ty50, ty61, ty72, ty73, ty83, ty89, ty106, ty110, ty113, ty119, ty129, eqT, cellInts, bld, partOk, nilAV, bytesOf, h1, h2, frac, mWithin_at, mGcd_at (-4611686018427387904) t b (by omega) (by omega) (by omega) (by omega), bool, fracOk]
      rw [Bool.eq_iff_iff]; simp; omega
    · have h2' : (decide (1 ≤ b) && decide (b ≤ 1000000000)) = false := by simpa using h2
      simp [Try.f128, awp_skip, awp_seq, awp_block, awp_exit, awp_ret, awp_loop, awp_rangeF, awp_region, awp_cond, contS_normal, contS_exit, contS_ret, inB_normal, inB_exit, inB_ret, loopS_normal, loopS_exit, loopS_ret, doneS_normal, doneS_ret, regS_some, condS_bool, bindS_some, rrun_nil, rrun_cons, outD_some, stepG_some, rstep_eq, callOut_some, callOut_none, mutCall_none, movCall_none, frzCall_none, frzCall_some, alt_none, alt_some, regrun_false, regrun_true, noLd_dt, mkLd_dt, frzLd_dt, ldR_dt, dtGet, rdraw_eq, rrunD_nil, rrunD_cons, contD_eq, rstepD_eq, outDr_some, outC_zero, outC_succ, needs, chk, stR, opR, jk, jkL, meets, shf, nums, sets, Op.operands, Call.operands, noM_mk, callV_fn, aop_call, take_map_all, guardOk, aop, ev, putD, ofV, ofV1, Value.oneCell', asNat, abin, aun, pickAV, scal, frz, TypeDesc.aggB, AV.cells, lenAV, getAt, loadCell, loadCells, res, resL, intern, internL, putCells, ownR, ownRL, ownV, drops, flat, kill, killL, killN, killNL, clean, keep, refsL, refs, once, place, renL, ren, ctx, G, resOk, resVars, resVar, ownR, ownRL, pack, viewEs, bndOf, appX, appY, List.range, List.range.loop, ty2, ty3, ty4, ty5, ty9, ty12, ty21, ty22, ty23, ty28, ty33, ty44, ty50, ty61, ty72, ty73, ty83, ty89, ty106, ty110, ty113, ty119, ty129, eqT, cellInts, bld, partOk, nilAV, bytesOf, h1, h2', frac, mWithin_at, bool, fracOk]
  · have h1' : (decide (-1000000000 ≤ t) && decide (t ≤ 1000000000)) = false := by simpa using h1
    simp [Try.f128, awp_skip, awp_seq, awp_block, awp_exit, awp_ret, awp_loop, awp_rangeF, awp_region, awp_cond, contS_normal, contS_exit, contS_ret, inB_normal, inB_exit, inB_ret, loopS_normal, loopS_exit, loopS_ret, doneS_normal, doneS_ret, regS_some, condS_bool, bindS_some, rrun_nil, rrun_cons, outD_some, stepG_some, rstep_eq, callOut_some, callOut_none, mutCall_none, movCall_none, frzCall_none, frzCall_some, alt_none, alt_some, regrun_false, regrun_true, noLd_dt, mkLd_dt, frzLd_dt, ldR_dt, dtGet, rdraw_eq, rrunD_nil, rrunD_cons, contD_eq, rstepD_eq, outDr_some, outC_zero, outC_succ, needs, chk, stR, opR, jk, jkL, meets, shf, nums, sets, Op.operands, Call.operands, noM_mk, callV_fn, aop_call, take_map_all, guardOk, aop, ev, putD, ofV, ofV1, Value.oneCell', asNat, abin, aun, pickAV, scal, frz, TypeDesc.aggB, AV.cells, lenAV, getAt, loadCell, loadCells, res, resL, intern, internL, putCells, ownR, ownRL, ownV, drops, flat, kill, killL, killN, killNL, clean, keep, refsL, refs, once, place, renL, ren, ctx, G, resOk, resVars, resVar, ownR, ownRL, pack, viewEs, bndOf, appX, appY, List.range, List.range.loop, ty2, ty3, ty4, ty5, ty9, ty12, ty21, ty22, ty23, ty28, ty33, ty44, ty50, ty61, ty72, ty73, ty83, ty89, ty106, ty110, ty113, ty119, ty129, eqT, cellInts, bld, partOk, nilAV, bytesOf, h1', frac, mWithin_at, bool, fracOk]

theorem gcd_abs (t b : Int) : Int.gcd (max t (-t)) b = Int.gcd t b := by
  simp only [Int.gcd]
  congr 1; omega

set_option maxHeartbeats 1000000 in
theorem specFractionOk_ok : FnOk Try.prog 98 mFracOk := by
  refine mk_ok fun ⟨t, b⟩ _ => ?_
  have hG : FnsOk Try.prog [(69, mWithin), (126, mGcd 0)] := .cons l01In_ok (.cons l02Gcd_ok .nil)
  refine callOk_of_awp (ctx_ok eqOk hG) mixed (live := [true, true, true]) (dt := []) Try.func98 rfl (by kernel_rfl) (by kernel_rfl) fun w0 => ?_
  by_cases h1 : -1000000000 ≤ t ∧ t ≤ 1000000000
  · by_cases h2 : 1 ≤ b ∧ b ≤ 1000000000
    · have hw : IntKind.i64.wrap (-t) = -t := wrapI (by omega) (by omega)
      simp [Try.f98, awp_skip, awp_seq, awp_block, awp_exit, awp_ret, awp_loop, awp_rangeF, awp_region, awp_cond, contS_normal, contS_exit, contS_ret, inB_normal, inB_exit, inB_ret, loopS_normal, loopS_exit, loopS_ret, doneS_normal, doneS_ret, regS_some, condS_bool, bindS_some, rrun_nil, rrun_cons, outD_some, stepG_some, rstep_eq, callOut_some, callOut_none, mutCall_none, movCall_none, frzCall_none, frzCall_some, alt_none, alt_some, regrun_false, regrun_true, noLd_dt, mkLd_dt, frzLd_dt, ldR_dt, dtGet, rdraw_eq, rrunD_nil, rrunD_cons, contD_eq, rstepD_eq, outDr_some, outC_zero, outC_succ, needs, chk, stR, opR, jk, jkL, meets, shf, nums, sets, Op.operands, Call.operands, noM_mk, callV_fn, aop_call, take_map_all, guardOk, aop, ev, putD, ofV, ofV1, Value.oneCell', asNat, abin, aun, pickAV, scal, frz, TypeDesc.aggB, AV.cells, lenAV, getAt, loadCell, loadCells, res, resL, intern, internL, putCells, ownR, ownRL, ownV, drops, flat, kill, killL, killN, killNL, clean, keep, refsL, refs, once, place, renL, ren, ctx, G, resOk, resVars, resVar, ownR, ownRL, pack, viewEs, bndOf, appX, appY, List.range, List.range.loop, ty2, ty3, ty4, ty5, ty9, ty12, ty21, ty22, ty23, ty28, ty33, ty44, ty50, ty61, ty72, ty73, ty83, ty89, ty106, ty110, ty113, ty119, ty129, eqT, cellInts, bld, partOk, nilAV, bytesOf, h1, h2, frac, mWithin_at, hw, mGcd_at 0 (max t (-t)) b (by omega) (by omega) (by omega) (by omega), bool, fracOk]
      rw [gcd_abs, Bool.eq_iff_iff]; simp; omega
    · have h2' : (decide (1 ≤ b) && decide (b ≤ 1000000000)) = false := by simpa using h2
      simp [Try.f98, awp_skip, awp_seq, awp_block, awp_exit, awp_ret, awp_loop, awp_rangeF, awp_region, awp_cond, contS_normal, contS_exit, contS_ret, inB_normal, inB_exit, inB_ret, loopS_normal, loopS_exit, loopS_ret, doneS_normal, doneS_ret, regS_some, condS_bool, bindS_some, rrun_nil, rrun_cons, outD_some, stepG_some, rstep_eq, callOut_some, callOut_none, mutCall_none, movCall_none, frzCall_none, frzCall_some, alt_none, alt_some, regrun_false, regrun_true, noLd_dt, mkLd_dt, frzLd_dt, ldR_dt, dtGet, rdraw_eq, rrunD_nil, rrunD_cons, contD_eq, rstepD_eq, outDr_some, outC_zero, outC_succ, needs, chk, stR, opR, jk, jkL, meets, shf, nums, sets, Op.operands, Call.operands, noM_mk, callV_fn, aop_call, take_map_all, guardOk, aop, ev, putD, ofV, ofV1, Value.oneCell', asNat, abin, aun, pickAV, scal, frz, TypeDesc.aggB, AV.cells, lenAV, getAt, loadCell, loadCells, res, resL, intern, internL, putCells, ownR, ownRL, ownV, drops, flat, kill, killL, killN, killNL, clean, keep, refsL, refs, once, place, renL, ren, ctx, G, resOk, resVars, resVar, ownR, ownRL, pack, viewEs, bndOf, appX, appY, List.range, List.range.loop, ty2, ty3, ty4, ty5, ty9, ty12, ty21, ty22, ty23, ty28, ty33, ty44, ty50, ty61, ty72, ty73, ty83, ty89, ty106, ty110, ty113, ty119, ty129, eqT, cellInts, bld, partOk, nilAV, bytesOf, h1, h2', frac, mWithin_at, bool, fracOk]
  · have h1' : (decide (-1000000000 ≤ t) && decide (t ≤ 1000000000)) = false := by simpa using h1
    simp [Try.f98, awp_skip, awp_seq, awp_block, awp_exit, awp_ret, awp_loop, awp_rangeF, awp_region, awp_cond, contS_normal, contS_exit, contS_ret, inB_normal, inB_exit, inB_ret, loopS_normal, loopS_exit, loopS_ret, doneS_normal, doneS_ret, regS_some, condS_bool, bindS_some, rrun_nil, rrun_cons, outD_some, stepG_some, rstep_eq, callOut_some, callOut_none, mutCall_none, movCall_none, frzCall_none, frzCall_some, alt_none, alt_some, regrun_false, regrun_true, noLd_dt, mkLd_dt, frzLd_dt, ldR_dt, dtGet, rdraw_eq, rrunD_nil, rrunD_cons, contD_eq, rstepD_eq, outDr_some, outC_zero, outC_succ, needs, chk, stR, opR, jk, jkL, meets, shf, nums, sets, Op.operands, Call.operands, noM_mk, callV_fn, aop_call, take_map_all, guardOk, aop, ev, putD, ofV, ofV1, Value.oneCell', asNat, abin, aun, pickAV, scal, frz, TypeDesc.aggB, AV.cells, lenAV, getAt, loadCell, loadCells, res, resL, intern, internL, putCells, ownR, ownRL, ownV, drops, flat, kill, killL, killN, killNL, clean, keep, refsL, refs, once, place, renL, ren, ctx, G, resOk, resVars, resVar, ownR, ownRL, pack, viewEs, bndOf, appX, appY, List.range, List.range.loop, ty2, ty3, ty4, ty5, ty9, ty12, ty21, ty22, ty23, ty28, ty33, ty44, ty50, ty61, ty72, ty73, ty83, ty89, ty106, ty110, ty113, ty119, ty129, eqT, cellInts, bld, partOk, nilAV, bytesOf, h1', frac, mWithin_at, bool, fracOk]

def mWhole : List AV → Option AV
  | [.v (.int .i64 n)] => some (.agg [.v (.int .i64 n), .v (.int .i64 1)])
  | _ => none
theorem mWhole_at (n : Int) : mWhole [.v (.int .i64 n)] = some (.agg [.v (.int .i64 n), .v (.int .i64 1)]) := rfl

theorem whole_ok : FnOk Try.prog 134 mWhole := by
  intro args r h
  unfold mWhole at h
  split at h
  · rename_i n
    simp only [Option.some.injEq] at h; subst h
    refine callOk_of_awp (ctx_ok eqOk .nil) mixed (live := [true, false, true]) (dt := []) Try.func134 rfl (by kernel_rfl) (by kernel_rfl) fun w0 => ?_
    simp [Try.f134, awp_skip, awp_seq, awp_block, awp_exit, awp_ret, awp_loop, awp_rangeF, awp_region, awp_cond, contS_normal, contS_exit, contS_ret, inB_normal, inB_exit, inB_ret, loopS_normal, loopS_exit, loopS_ret, doneS_normal, doneS_ret, regS_some, condS_bool, bindS_some, rrun_nil, rrun_cons, outD_some, stepG_some, rstep_eq, callOut_some, callOut_none, mutCall_none, movCall_none, frzCall_none, frzCall_some, alt_none, alt_some, regrun_false, regrun_true, noLd_dt, mkLd_dt, frzLd_dt, ldR_dt, dtGet, rdraw_eq, rrunD_nil, rrunD_cons, contD_eq, rstepD_eq, outDr_some, outC_zero, outC_succ, needs, chk, stR, opR, jk, jkL, meets, shf, nums, sets, Op.operands, Call.operands, noM_mk, callV_fn, aop_call, take_map_all, guardOk, aop, ev, putD, ofV, ofV1, Value.oneCell', asNat, abin, aun, pickAV, scal, frz, TypeDesc.aggB, AV.cells, lenAV, getAt, loadCell, loadCells, res, resL, intern, internL, putCells, ownR, ownRL, ownV, drops, flat, kill, killL, killN, killNL, clean, keep, refsL, refs, once, place, renL, ren, ctx, G, resOk, resVars, resVar, ownR, ownRL, pack, viewEs, bndOf, appX, appY, List.range, List.range.loop, ty2, ty3, ty4, ty5, ty9, ty12, ty21, ty22, ty23, ty28, ty33, ty44, ty50, ty61, ty72, ty73, ty83, ty89, ty106, ty110, ty113, ty119, ty129, eqT, cellInts, bld, partOk, nilAV, bytesOf]
  · simp at h

noncomputable def mId1 : List AV → Option AV := mk (fun _ => True) (fun (f : Int × Int) => [frac f]) (fun f => frac f)
theorem mId1_at (t b : Int) : mId1 [.agg [.v (.int .i64 t), .v (.int .i64 b)]] = some (.agg [.v (.int .i64 t), .v (.int .i64 b)]) :=
  mk_eq (enc := fun f => [frac f]) (x := (t, b)) (by intro x y h; simp [frac_inj] at h; simp [h]) trivial

theorem toFraction_ok : FnOk Try.prog 103 mId1 := by
  refine mk_ok fun ⟨t, b⟩ _ => ?_
  refine callOk_of_awp (ctx_ok eqOk .nil) mixed (live := [true, true, true, true]) (dt := []) Try.func103 rfl (by kernel_rfl) (by kernel_rfl) fun w0 => ?_
  simp [Try.f103, awp_skip, awp_seq, awp_block, awp_exit, awp_ret, awp_loop, awp_rangeF, awp_region, awp_cond, contS_normal, contS_exit, contS_ret, inB_normal, inB_exit, inB_ret, loopS_normal, loopS_exit, loopS_ret, doneS_normal, doneS_ret, regS_some, condS_bool, bindS_some, rrun_nil, rrun_cons, outD_some, stepG_some, rstep_eq, callOut_some, callOut_none, mutCall_none, movCall_none, frzCall_none, frzCall_some, alt_none, alt_some, regrun_false, regrun_true, noLd_dt, mkLd_dt, frzLd_dt, ldR_dt, dtGet, rdraw_eq, rrunD_nil, rrunD_cons, contD_eq, rstepD_eq, outDr_some, outC_zero, outC_succ, needs, chk, stR, opR, jk, jkL, meets, shf, nums, sets, Op.operands, Call.operands, noM_mk, callV_fn, aop_call, take_map_all, guardOk, aop, ev, putD, ofV, ofV1, Value.oneCell', asNat, abin, aun, pickAV, scal, frz, TypeDesc.aggB, AV.cells, lenAV, getAt, loadCell, loadCells, res, resL, intern, internL, putCells, ownR, ownRL, ownV, drops, flat, kill, killL, killN, killNL, clean, keep, refsL, refs, once, place, renL, ren, ctx, G, resOk, resVars, resVar, ownR, ownRL, pack, viewEs, bndOf, appX, appY, List.range, List.range.loop, ty2, ty3, ty4, ty5, ty9, ty12, ty21, ty22, ty23, ty28, ty33, ty44, ty50, ty61, ty72, ty73, ty83, ty89, ty106, ty110, ty113, ty119, ty129, eqT, cellInts, bld, partOk, nilAV, bytesOf, frac]

noncomputable def mEqF : List AV → Option AV := mk (fun _ => True) (fun (p : (Int × Int) × (Int × Int)) => [frac p.1, frac p.2]) (fun p => bool (decide (p.1 = p.2)))
theorem mEqF_at (a b c d : Int) : mEqF [.agg [.v (.int .i64 a), .v (.int .i64 b)], .agg [.v (.int .i64 c), .v (.int .i64 d)]] = some (.v (.bool (decide ((a, b) = (c, d))))) :=
  mk_eq (enc := fun (p : (Int × Int) × (Int × Int)) => [frac p.1, frac p.2]) (x := ((a, b), (c, d))) (by rintro ⟨x, x'⟩ ⟨y, y'⟩ h; simp [frac_inj] at h; simp [h]) trivial

theorem eqFraction_ok : FnOk Try.prog 96 mEqF := by
  refine mk_ok fun ⟨⟨a, b⟩, ⟨c, d⟩⟩ _ => ?_
  refine callOk_of_awp (ctx_ok eqOk .nil) mixed (live := [true, true, true, true, true, false, false, false, false, true, false, false, false, false, true]) (dt := []) Try.func96 rfl (by kernel_rfl) (by kernel_rfl) fun w0 => ?_
  by_cases h1 : a = c
  · by_cases h2 : b = d
    · simp [Try.f96, awp_skip, awp_seq, awp_block, awp_exit, awp_ret, awp_loop, awp_rangeF, awp_region, awp_cond, contS_normal, contS_exit, contS_ret, inB_normal, inB_exit, inB_ret, loopS_normal, loopS_exit, loopS_ret, doneS_normal, doneS_ret, regS_some, condS_bool, bindS_some, rrun_nil, rrun_cons, outD_some, stepG_some, rstep_eq, callOut_some, callOut_none, mutCall_none, movCall_none, frzCall_none, frzCall_some, alt_none, alt_some, regrun_false, regrun_true, noLd_dt, mkLd_dt, frzLd_dt, ldR_dt, dtGet, rdraw_eq, rrunD_nil, rrunD_cons, contD_eq, rstepD_eq, outDr_some, outC_zero, outC_succ, needs, chk, stR, opR, jk, jkL, meets, shf, nums, sets, Op.operands, Call.operands, noM_mk, callV_fn, aop_call, take_map_all, guardOk, aop, ev, putD, ofV, ofV1, Value.oneCell', asNat, abin, aun, pickAV, scal, frz, TypeDesc.aggB, AV.cells, lenAV, getAt, loadCell, loadCells, res, resL, intern, internL, putCells, ownR, ownRL, ownV, drops, flat, kill, killL, killN, killNL, clean, keep, refsL, refs, once, place, renL, ren, ctx, G, resOk, resVars, resVar, ownR, ownRL, pack, viewEs, bndOf, appX, appY, List.range, List.range.loop, ty2, ty3, ty4, ty5, ty9, ty12, ty21, ty22, ty23, ty28, ty33, ty44, ty50, ty61, ty72, ty73, ty83, ty89, ty106, ty110, ty113, ty119, ty129, eqT, cellInts, bld, partOk, nilAV, bytesOf, frac, h1, h2, bool]
    · simp [Try.f96, awp_skip, awp_seq, awp_block, awp_exit, awp_ret, awp_loop, awp_rangeF, awp_region, awp_cond, contS_normal, contS_exit, contS_ret, inB_normal, inB_exit, inB_ret, loopS_normal, loopS_exit, loopS_ret, doneS_normal, doneS_ret, regS_some, condS_bool, bindS_some, rrun_nil, rrun_cons, outD_some, stepG_some, rstep_eq, callOut_some, callOut_none, mutCall_none, movCall_none, frzCall_none, frzCall_some, alt_none, alt_some, regrun_false, regrun_true, noLd_dt, mkLd_dt, frzLd_dt, ldR_dt, dtGet, rdraw_eq, rrunD_nil, rrunD_cons, contD_eq, rstepD_eq, outDr_some, outC_zero, outC_succ, needs, chk, stR, opR, jk, jkL, meets, shf, nums, sets, Op.operands, Call.operands, noM_mk, callV_fn, aop_call, take_map_all, guardOk, aop, ev, putD, ofV, ofV1, Value.oneCell', asNat, abin, aun, pickAV, scal, frz, TypeDesc.aggB, AV.cells, lenAV, getAt, loadCell, loadCells, res, resL, intern, internL, putCells, ownR, ownRL, ownV, drops, flat, kill, killL, killN, killNL, clean, keep, refsL, refs, once, place, renL, ren, ctx, G, resOk, resVars, resVar, ownR, ownRL, pack, viewEs, bndOf, appX, appY, List.range, List.range.loop, ty2, ty3, ty4, ty5, ty9, ty12, ty21, ty22, ty23, ty28, ty33, ty44, ty50, ty61, ty72, ty73, ty83, ty89, ty106, ty110, ty113, ty119, ty129, eqT, cellInts, bld, partOk, nilAV, bytesOf, frac, h1, h2, bool]
  · simp [Try.f96, awp_skip, awp_seq, awp_block, awp_exit, awp_ret, awp_loop, awp_rangeF, awp_region, awp_cond, contS_normal, contS_exit, contS_ret, inB_normal, inB_exit, inB_ret, loopS_normal, loopS_exit, loopS_ret, doneS_normal, doneS_ret, regS_some, condS_bool, bindS_some, rrun_nil, rrun_cons, outD_some, stepG_some, rstep_eq, callOut_some, callOut_none, mutCall_none, movCall_none, frzCall_none, frzCall_some, alt_none, alt_some, regrun_false, regrun_true, noLd_dt, mkLd_dt, frzLd_dt, ldR_dt, dtGet, rdraw_eq, rrunD_nil, rrunD_cons, contD_eq, rstepD_eq, outDr_some, outC_zero, outC_succ, needs, chk, stR, opR, jk, jkL, meets, shf, nums, sets, Op.operands, Call.operands, noM_mk, callV_fn, aop_call, take_map_all, guardOk, aop, ev, putD, ofV, ofV1, Value.oneCell', asNat, abin, aun, pickAV, scal, frz, TypeDesc.aggB, AV.cells, lenAV, getAt, loadCell, loadCells, res, resL, intern, internL, putCells, ownR, ownRL, ownV, drops, flat, kill, killL, killN, killNL, clean, keep, refsL, refs, once, place, renL, ren, ctx, G, resOk, resVars, resVar, ownR, ownRL, pack, viewEs, bndOf, appX, appY, List.range, List.range.loop, ty2, ty3, ty4, ty5, ty9, ty12, ty21, ty22, ty23, ty28, ty33, ty44, ty50, ty61, ty72, ty73, ty83, ty89, ty106, ty110, ty113, ty119, ty129, eqT, cellInts, bld, partOk, nilAV, bytesOf, frac, h1, bool]

noncomputable def mSzF : List AV → Option AV := mk (fun p => p.2.1.length < 2 ^ 63 ∧ 0 ≤ p.2.2 ∧ p.2.2 ≤ 2 ^ 62) (fun (p : Bool × List (Int × Int) × Int) => [fracs p.1 p.2.1, int p.2.2]) (fun p => int (if p.2.2 < p.2.1.length then -1 else p.2.2 - p.2.1.length))
theorem mSzF_at (nl : Bool) (xs : List (Int × Int)) (l : Int) (h : xs.length < 2 ^ 63) (h1 : 0 ≤ l) (h2 : l ≤ 2 ^ 62) : mSzF [.sl nl 2 (xs.map frac), .v (.int .i64 l)] = some (.v (.int .i64 (if l < xs.length then -1 else l - xs.length))) :=
  mk_eq (enc := fun (p : Bool × List (Int × Int) × Int) => [fracs p.1 p.2.1, int p.2.2]) (x := (nl, xs, l)) (by rintro ⟨x, x', x''⟩ ⟨y, y', y''⟩ h; simp [fracs, int, map_frac_inj] at h; simp [h]) ⟨h, h1, h2⟩

theorem szFractionS_ok : FnOk Try.prog 55 mSzF := by
  refine mk_ok fun ⟨nl, xs, l⟩ ⟨h1, h2, h3⟩ => ?_
  simp only at h1 h2 h3
  refine callOk_of_awp (ctx_ok eqOk .nil) mixed (live := [true, true, false, false, true, false, false, false, false, false, true]) (dt := []) Try.func55 rfl (by kernel_rfl) (by kernel_rfl) fun w0 => ?_
  have hw : IntKind.i64.wrap (l - xs.length) = l - xs.length := wrapI (by omega) (by omega)
  by_cases h : l < xs.length
  · have h' : l - xs.length < 0 := by omega
    simp [Try.f55, awp_skip, awp_seq, awp_block, awp_exit, awp_ret, awp_loop, awp_rangeF, awp_region, awp_cond, contS_normal, contS_exit, contS_ret, inB_normal, inB_exit, inB_ret, loopS_normal, loopS_exit, loopS_ret, doneS_normal, doneS_ret, regS_some, condS_bool, bindS_some, rrun_nil, rrun_cons, outD_some, stepG_some, rstep_eq, callOut_some, callOut_none, mutCall_none, movCall_none, frzCall_none, frzCall_some, alt_none, alt_some, regrun_false, regrun_true, noLd_dt, mkLd_dt, frzLd_dt, ldR_dt, dtGet, rdraw_eq, rrunD_nil, rrunD_cons, contD_eq, rstepD_eq, outDr_some, outC_zero, outC_succ, needs, chk, stR, opR, jk, jkL, meets, shf, nums, sets, Op.operands, Call.operands, noM_mk, callV_fn, aop_call, take_map_all, guardOk, aop, ev, putD, ofV, ofV1, Value.oneCell', asNat, abin, aun, pickAV, scal, frz, TypeDesc.aggB, AV.cells, lenAV, getAt, loadCell, loadCells, res, resL, intern, internL, putCells, ownR, ownRL, ownV, drops, flat, kill, killL, killN, killNL, clean, keep, refsL, refs, once, place, renL, ren, ctx, G, resOk, resVars, resVar, ownR, ownRL, pack, viewEs, bndOf, appX, appY, List.range, List.range.loop, ty2, ty3, ty4, ty5, ty9, ty12, ty21, ty22, ty23, ty28, ty33, ty44, ty50, ty61, ty72, ty73, ty83, ty89, ty106, ty110, ty113, ty119, ty129, eqT, cellInts, bld, partOk, nilAV, bytesOf, fracs, int, hw, h, h']
  · have h' : ¬ l - xs.length < 0 := by omega
    simp [Try.f55, awp_skip, awp_seq, awp_block, awp_exit, awp_ret, awp_loop, awp_rangeF, awp_region, awp_cond, contS_normal, contS_exit, contS_ret, inB_normal, inB_exit, inB_ret, loopS_normal, loopS_exit, loopS_ret, doneS_normal, doneS_ret, regS_some, condS_bool, bindS_some, rrun_nil, rrun_cons, outD_some, stepG_some, rstep_eq, callOut_some, callOut_none, mutCall_none, movCall_none, frzCall_none, frzCall_some, alt_none, alt_some, regrun_false, regrun_true, noLd_dt, mkLd_dt, frzLd_dt, ldR_dt, dtGet, rdraw_eq, rrunD_nil, rrunD_cons, contD_eq, rstepD_eq, outDr_some, outC_zero, outC_succ, needs, chk, stR, opR, jk, jkL, meets, shf, nums, sets, Op.operands, Call.operands, noM_mk, callV_fn, aop_call, take_map_all, guardOk, aop, ev, putD, ofV, ofV1, Value.oneCell', asNat, abin, aun, pickAV, scal, frz, TypeDesc.aggB, AV.cells, lenAV, getAt, loadCell, loadCells, res, resL, intern, internL, putCells, ownR, ownRL, ownV, drops, flat, kill, killL, killN, killNL, clean, keep, refsL, refs, once, place, renL, ren, ctx, G, resOk, resVars, resVar, ownR, ownRL, pack, viewEs, bndOf, appX, appY, List.range, List.range.loop, ty2, ty3, ty4, ty5, ty9, ty12, ty21, ty22, ty23, ty28, ty33, ty44, ty50, ty61, ty72, ty73, ty83, ty89, ty106, ty110, ty113, ty119, ty129, eqT, cellInts, bld, partOk, nilAV, bytesOf, fracs, int, hw, h, h']

end Go.Proofs.Ytbiefpodcenpoaa.Ax
