/-
  Contracts of allWithin and rectangle. No condition.
-/
import Derived.Test.YtpjejdebdhgngaaDoorCB3
namespace Go.Proofs.YtpjejdebdhgngaaDoor.Ax
open Go Go.RowKit
set_option linter.unusedSimpArgs false

def inR (lo hi x : Int) : Bool := decide (lo ≤ x) && decide (x ≤ hi)

theorem allWithin1 (x lo hi : Int) : CallOk Tryd.prog 90 [.v (.int .i64 x), .fp (.v (.int .i64 lo)) 0, .fp (.v (.int .i64 hi)) 0] (.v (.bool (!inR lo hi x))) := by
  have hG : FnsOk Tryd.prog [(52, mWithin)] := .cons within_ok .nil
  refine callOk_of_awp (ctx_ok eqOk hG) mixed (live := [true, true, true, false, true]) (dt := []) Tryd.func90 rfl (by kernel_rfl) (by kernel_rfl) fun w0 => ?_
  simp [Tryd.f90, awp_skip, awp_seq, awp_block, awp_exit, awp_ret, awp_loop, awp_rangeF, awp_region, awp_cond, contS_normal, contS_exit, contS_ret, inB_normal, inB_exit, inB_ret, loopS_normal, loopS_exit, loopS_ret, doneS_normal, doneS_ret, regS_some, condS_bool, bindS_some, rrun_nil, rrun_cons, outD_some, stepG_some, rstep_eq, callOut_some, callOut_none, mutCall_none, movCall_none, frzCall_none, frzCall_some, alt_none, alt_some, regrun_false, regrun_true, noLd_dt, mkLd_dt, frzLd_dt, ldR_dt, dtGet, rdraw_eq, rrunD_nil, rrunD_cons, contD_eq, rstepD_eq, outDr_some, outC_zero, outC_succ, needs, chk, stR, opR, jk, jkL, meets, shf, nums, sets, Op.operands, Call.operands, noM_mk, callV_fn, aop_call, take_map_all, guardOk, aop, ev, putD, ofV, ofV1, Value.oneCell', asNat, abin, aun, pickAV, scal, frz, TypeDesc.aggB, AV.cells, lenAV, getAt, loadCell, loadCells, res, resL, intern, internL, putCells, ownR, ownRL, ownV, drops, flat, kill, killL, killN, killNL, clean, keep, refsL, refs, once, place, renL, ren, ctx, G, resOk, resVars, resVar, ownR, ownRL, pack, viewEs, bndOf, appX, appY, List.range, List.range.loop, ty2, ty3, ty4, ty5, ty9, ty12, ty21, ty22, ty27, ty33, ty36, ty40, ty43, ty47, ty51, ty52, ty55, ty59, ty71, ty72, ty75, ty86, ty96, ty97, ty106, ty111, ty112, ty113, ty120, ty121, ty124, ty133, eqT, cellInts, bld, partOk, nilAV, bytesOf, mWithin, inR]

noncomputable def mAllIn : List AV → Option AV := mk (fun _ => True) (fun (p : Bool × List Int × Int × Int) => [ints p.1 p.2.1, int p.2.2.1, int p.2.2.2]) (fun p => bool (p.2.1.all (inR p.2.2.1 p.2.2.2)))
theorem mAllIn_at (nl : Bool) (xs : List Int) (lo hi : Int) : mAllIn [.sl nl 1 (xs.map int), .v (.int .i64 lo), .v (.int .i64 hi)] = some (.v (.bool (xs.all (inR lo hi)))) :=
  mk_eq (enc := fun (p : Bool × List Int × Int × Int) => [ints p.1 p.2.1, int p.2.2.1, int p.2.2.2]) (x := (nl, xs, lo, hi)) (by rintro ⟨x, x', a, b⟩ ⟨y, y', c, d⟩ h; simp [ints, int_inj, map_int_inj] at h; simp [h]) trivial

theorem not_any_not {α : Type} {p : α → Bool} {xs : List α} : (!xs.any fun x => !p x) = xs.all p := by
  induction xs with
  | nil => rfl
  | cons x xs ih => simp only [List.any_cons, List.all_cons, Bool.not_or, Bool.not_not, ih]

theorem pure_fp {a : AV} {j : Nat} {l : List AV} (h : Pure l) : Pure (.fp a j :: l) := ⟨fun t => by simp [resL, res, h.res], by simp [refsL, refs, h.refs], fun f => by simp [renL, ren, h.ren]⟩
theorem pure_nil : Pure [] := ⟨fun t => by simp [resL], by simp [refsL], fun f => by simp [renL]⟩

theorem allWithin_ok : FnOk Tryd.prog 77 mAllIn := by
  refine mk_ok fun ⟨nl, xs, lo, hi⟩ _ => ?_
  have hc := containsInts (g := 90) (pure_fp (a := .v (.int .i64 lo)) (j := 0) (pure_fp (a := .v (.int .i64 hi)) (j := 0) pure_nil)) (fun x => !inR lo hi x) nl xs (fun x _ => allWithin1 x lo hi)
  have hG : FnsOk Tryd.prog [(89, only _ _)] := .cons (only_ok hc) .nil
  refine callOk_of_awp (ctx_ok eqOk hG) mixed (live := [true, true, true, false, true, true, true]) (dt := []) Tryd.func77 rfl (by kernel_rfl) (by kernel_rfl) fun w0 => ?_
  have ha := only_at (a := [ints nl xs, .fn 90 [.fp (.v (.int .i64 lo)) 0, .fp (.v (.int .i64 hi)) 0]]) (r := bool (xs.any fun x => !inR lo hi x))
  simp only [ints, bool] at ha
  simp [Tryd.f77, awp_skip, awp_seq, awp_block, awp_exit, awp_ret, awp_loop, awp_rangeF, awp_region, awp_cond, contS_normal, contS_exit, contS_ret, inB_normal, inB_exit, inB_ret, loopS_normal, loopS_exit, loopS_ret, doneS_normal, doneS_ret, regS_some, condS_bool, bindS_some, rrun_nil, rrun_cons, outD_some, stepG_some, rstep_eq, callOut_some, callOut_none, mutCall_none, movCall_none, frzCall_none, frzCall_some, alt_none, alt_some, regrun_false, regrun_true, noLd_dt, mkLd_dt, frzLd_dt, ldR_dt, dtGet, rdraw_eq, rrunD_nil, rrunD_cons, contD_eq, rstepD_eq, outDr_some, outC_zero, outC_succ, needs, chk, stR, opR, jk, jkL, meets, shf, nums, sets, Op.operands, Call.operands, noM_mk, callV_fn, aop_call, take_map_all, guardOk, aop, ev, putD, ofV, ofV1, Value.oneCell', asNat, abin, aun, pickAV, scal, frz, TypeDesc.aggB, AV.cells, lenAV, getAt, loadCell, loadCells, res, resL, intern, internL, putCells, ownR, ownRL, ownV, drops, flat, kill, killL, killN, killNL, clean, keep, refsL, refs, once, place, renL, ren, ctx, G, resOk, resVars, resVar, ownR, ownRL, pack, viewEs, bndOf, appX, appY, List.range, List.range.loop, ty2, ty3, ty4, ty5, ty9, ty12, ty21, ty22, ty27, ty33, ty36, ty40, ty43, ty47, ty51, ty52, ty55, ty59, ty71, ty72, ty75, ty86, ty96, ty97, ty106, ty111, ty112, ty113, ty120, ty121, ty124, ty133, eqT, cellInts, bld, partOk, nilAV, bytesOf, ints, int, bool, ha, not_any_not]

/-- Is it a row of n numbers, each from 0 to most? -/
def rowIs (n : Nat) (most : Int) (r : Bool × List Int) : Bool := decide (r.2.length = n) && r.2.all (inR 0 most)

theorem rectangle1 (r : Bool × List Int) (nl : Bool) (r0 : Bool × List Int) (rs : List (Bool × List Int)) (most : Int) :
    CallOk Tryd.prog 76 [row r, .fp (intss nl (r0 :: rs)) 0, .fp (int most) 0] (.v (.bool (!rowIs r0.2.length most r))) := by
  have hG : FnsOk Tryd.prog [(77, mAllIn)] := .cons allWithin_ok .nil
  refine callOk_of_awp (ctx_ok eqOk hG) mixed (live := [true, true, true, false, true]) (dt := []) Tryd.func76 rfl (by kernel_rfl) (by kernel_rfl) fun w0 => ?_
  have hz := mAllIn_at r.1 r.2 0 most
  by_cases h : r.2.length = r0.2.length
  · simp [Tryd.f76, awp_skip, awp_seq, awp_block, awp_exit, awp_ret, awp_loop, awp_rangeF, awp_region, awp_cond, contS_normal, contS_exit, contS_ret, inB_normal, inB_exit, inB_ret, loopS_normal, loopS_exit, loopS_ret, doneS_normal, doneS_ret, regS_some, condS_bool, bindS_some, rrun_nil, rrun_cons, outD_some, stepG_some, rstep_eq, callOut_some, callOut_none, mutCall_none, movCall_none, frzCall_none, frzCall_some, alt_none, alt_some, regrun_false, regrun_true, noLd_dt, mkLd_dt, frzLd_dt, ldR_dt, dtGet, rdraw_eq, rrunD_nil, rrunD_cons, contD_eq, rstepD_eq, outDr_some, outC_zero, outC_succ, needs, chk, stR, opR, jk, jkL, meets, shf, nums, sets, Op.operands, Call.operands, noM_mk, callV_fn, aop_call, take_map_all, guardOk, aop, ev, putD, ofV, ofV1, Value.oneCell', asNat, abin, aun, pickAV, scal, frz, TypeDesc.aggB, AV.cells, lenAV, getAt, loadCell, loadCells, res, resL, intern, internL, putCells, ownR, ownRL, ownV, drops, flat, kill, killL, killN, killNL, clean, keep, refsL, refs, once, place, renL, ren, ctx, G, resOk, resVars, resVar, ownR, ownRL, pack, viewEs, bndOf, appX, appY, List.range, List.range.loop, ty2, ty3, ty4, ty5, ty9, ty12, ty21, ty22, ty27, ty33, ty36, ty40, ty43, ty47, ty51, ty52, ty55, ty59, ty71, ty72, ty75, ty86, ty96, ty97, ty106, ty111, ty112, ty113, ty120, ty121, ty124, ty133, eqT, cellInts, bld, partOk, nilAV, bytesOf, row, intss, int, h, hz, rowIs]
  · have h' : ((r.2.length : Int) != r0.2.length) = true := by simp; omega
    simp [Tryd.f76, awp_skip, awp_seq, awp_block, awp_exit, awp_ret, awp_loop, awp_rangeF, awp_region, awp_cond, contS_normal, contS_exit, contS_ret, inB_normal, inB_exit, inB_ret, loopS_normal, loopS_exit, loopS_ret, doneS_normal, doneS_ret, regS_some, condS_bool, bindS_some, rrun_nil, rrun_cons, outD_some, stepG_some, rstep_eq, callOut_some, callOut_none, mutCall_none, movCall_none, frzCall_none, frzCall_some, alt_none, alt_some, regrun_false, regrun_true, noLd_dt, mkLd_dt, frzLd_dt, ldR_dt, dtGet, rdraw_eq, rrunD_nil, rrunD_cons, contD_eq, rstepD_eq, outDr_some, outC_zero, outC_succ, needs, chk, stR, opR, jk, jkL, meets, shf, nums, sets, Op.operands, Call.operands, noM_mk, callV_fn, aop_call, take_map_all, guardOk, aop, ev, putD, ofV, ofV1, Value.oneCell', asNat, abin, aun, pickAV, scal, frz, TypeDesc.aggB, AV.cells, lenAV, getAt, loadCell, loadCells, res, resL, intern, internL, putCells, ownR, ownRL, ownV, drops, flat, kill, killL, killN, killNL, clean, keep, refsL, refs, once, place, renL, ren, ctx, G, resOk, resVars, resVar, ownR, ownRL, pack, viewEs, bndOf, appX, appY, List.range, List.range.loop, ty2, ty3, ty4, ty5, ty9, ty12, ty21, ty22, ty27, ty33, ty36, ty40, ty43, ty47, ty51, ty52, ty55, ty59, ty71, ty72, ty75, ty86, ty96, ty97, ty106, ty111, ty112, ty113, ty120, ty121, ty124, ty133, eqT, cellInts, bld, partOk, nilAV, bytesOf, row, intss, int, h, h', hz, rowIs]

def rectB (xss : List (Bool × List Int)) (high wide most : Int) : Bool := match xss with
  | [] => false
  | r0 :: _ => inR 1 high xss.length && inR 1 wide r0.2.length && xss.all (rowIs r0.2.length most)

noncomputable def mRect : List AV → Option AV := mk (fun _ => True) (fun (p : Bool × List (Bool × List Int) × Int × Int × Int) => [intss p.1 p.2.1, int p.2.2.1, int p.2.2.2.1, int p.2.2.2.2]) (fun p => bool (rectB p.2.1 p.2.2.1 p.2.2.2.1 p.2.2.2.2))
theorem mRect_at (nl : Bool) (xs : List (Bool × List Int)) (a b c : Int) : mRect [.sl nl 1 (xs.map row), .v (.int .i64 a), .v (.int .i64 b), .v (.int .i64 c)] = some (.v (.bool (rectB xs a b c))) :=
  mk_eq (enc := fun (p : Bool × List (Bool × List Int) × Int × Int × Int) => [intss p.1 p.2.1, int p.2.2.1, int p.2.2.2.1, int p.2.2.2.2]) (x := (nl, xs, a, b, c)) (by rintro ⟨x, x', a, b, c⟩ ⟨y, y', d, e, f⟩ h; simp [intss, int_inj, map_row_inj] at h; simp [h]) trivial

set_option maxHeartbeats 1000000 in
theorem rectangle_ok : FnOk Tryd.prog 60 mRect := by
  refine mk_ok fun ⟨nl, xss, high, wide, most⟩ _ => ?_
  cases xss with
  | nil =>
    have hG : FnsOk Tryd.prog [(52, mWithin)] := .cons within_ok .nil
    refine callOk_of_awp (ctx_ok eqOk hG) mixed (live := [true, true, true, true, true, false, false, true, true, false, false, false, false, false, false, false, false, false, false, false, false, false, true]) (dt := []) Tryd.func60 rfl (by kernel_rfl) (by kernel_rfl) fun w0 => ?_
    simp [Tryd.f60, awp_skip, awp_seq, awp_block, awp_exit, awp_ret, awp_loop, awp_rangeF, awp_region, awp_cond, contS_normal, contS_exit, contS_ret, inB_normal, inB_exit, inB_ret, loopS_normal, loopS_exit, loopS_ret, doneS_normal, doneS_ret, regS_some, condS_bool, bindS_some, rrun_nil, rrun_cons, outD_some, stepG_some, rstep_eq, callOut_some, callOut_none, mutCall_none, movCall_none, frzCall_none, frzCall_some, alt_none, alt_some, regrun_false, regrun_true, noLd_dt, mkLd_dt, frzLd_dt, ldR_dt, dtGet, rdraw_eq, rrunD_nil, rrunD_cons, contD_eq, rstepD_eq, outDr_some, outC_zero, outC_succ, needs, chk, stR, opR, jk, jkL, meets, shf, nums, sets, Op.operands, Call.operands, noM_mk, callV_fn, aop_call, take_map_all, guardOk, aop, ev, putD, ofV, ofV1, Value.oneCell', asNat, abin, aun, pickAV, scal, frz, TypeDesc.aggB, AV.cells, lenAV, getAt, loadCell, loadCells, res, resL, intern, internL, putCells, ownR, ownRL, ownV, drops, flat, kill, killL, killN, killNL, clean, keep, refsL, refs, once, place, renL, ren, ctx, G, resOk, resVars, resVar, ownR, ownRL, pack, viewEs, bndOf, appX, appY, List.range, List.range.loop, ty2, ty3, ty4, ty5, ty9, ty12, ty21, ty22, ty27, ty33, ty36, ty40, ty43, ty47, ty51, ty52, ty55, ty59, ty71, ty72, ty75, ty86, ty96, ty97, ty106, ty111, ty112, ty113, ty120, ty121, ty124, ty133, eqT, cellInts, bld, partOk, nilAV, bytesOf, intss, int, bool, mWithin, rectB]
  | cons r0 rs =>
    obtain ⟨m, hm, ha⟩ := as_model (containsIntss (g := 76) (pure_fp (a := intss nl (r0 :: rs)) (j := 0) (pure_fp (a := int most) (j := 0) pure_nil)) (fun r => !rowIs r0.2.length most r) nl (r0 :: rs) (fun x _ => rectangle1 x nl r0 rs most))
    have hG : FnsOk Tryd.prog [(52, mWithin), (75, m)] := .cons within_ok (.cons hm .nil)
    refine callOk_of_awp (ctx_ok eqOk hG) mixed (live := [true, true, true, true, true, false, false, true, true, false, false, false, false, false, false, false, false, false, false, false, false, false, true]) (dt := []) Tryd.func60 rfl (by kernel_rfl) (by kernel_rfl) fun w0 => ?_
    have hnn := not_any_not (p := rowIs r0.2.length most) (xs := r0 :: rs)
    generalize hb : ((r0 :: rs).any fun r => !rowIs r0.2.length most r) = bb at ha hnn
    simp only [intss, int, bool, List.map_cons, row] at ha
    by_cases h1 : inR 1 high (rs.length + 1) = true
    · by_cases h2 : inR 1 wide r0.2.length = true
      · have h1' := h1
        have h2' := h2
        simp only [inR, Bool.and_eq_true, decide_eq_true_eq] at h1' h2'
        have hr : rectB (r0 :: rs) high wide most = (r0 :: rs).all (rowIs r0.2.length most) := by simp [rectB, h1, h2]
        rw [hr, ← hnn]
        simp [Tryd.f60, awp_skip, awp_seq, awp_block, awp_exit, awp_ret, awp_loop, awp_rangeF, awp_region, awp_cond, contS_normal, contS_exit, contS_ret, inB_normal, inB_exit, inB_ret, loopS_normal, loopS_exit, loopS_ret, doneS_normal, doneS_ret, regS_some, condS_bool, bindS_some, rrun_nil, rrun_cons, outD_some, stepG_some, rstep_eq, callOut_some, callOut_none, mutCall_none, movCall_none, frzCall_none, frzCall_some, alt_none, alt_some, regrun_false, regrun_true, noLd_dt, mkLd_dt, frzLd_dt, ldR_dt, dtGet, rdraw_eq, rrunD_nil, rrunD_cons, contD_eq, rstepD_eq, outDr_some, outC_zero, outC_succ, needs, chk, stR, opR, jk, jkL, meets, shf, nums, sets, Op.operands, Call.operands, noM_mk, callV_fn, aop_call, take_map_all, guardOk, aop, ev, putD, ofV, ofV1, Value.oneCell', asNat, abin, aun, pickAV, scal, frz, TypeDesc.aggB, AV.cells, lenAV, getAt, loadCell, loadCells, res, resL, intern, internL, putCells, ownR, ownRL, ownV, drops, flat, kill, killL, killN, killNL, clean, keep, refsL, refs, once, place, renL, ren, ctx, G, resOk, resVars, resVar, ownR, ownRL, pack, viewEs, bndOf, appX, appY, List.range, List.range.loop, ty2, ty3, ty4, ty5, ty9, ty12, ty21, ty22, ty27, ty33, ty36, ty40, ty43, ty47, ty51, ty52, ty55, ty59, ty71, ty72, ty75, ty86, ty96, ty97, ty106, ty111, ty112, ty113, ty120, ty121, ty124, ty133, eqT, cellInts, bld, partOk, nilAV, bytesOf, intss, row, int, bool, mWithin, h1', h2', ha]
      · have h1' := h1
        simp only [inR, Bool.and_eq_true, decide_eq_true_eq] at h1'
        have h2' : (decide (1 ≤ (r0.2.length : Int)) && decide ((r0.2.length : Int) ≤ wide)) = false := by simpa [inR] using h2
        simp [Tryd.f60, awp_skip, awp_seq, awp_block, awp_exit, awp_ret, awp_loop, awp_rangeF, awp_region, awp_cond, contS_normal, contS_exit, contS_ret, inB_normal, inB_exit, inB_ret, loopS_normal, loopS_exit, loopS_ret, doneS_normal, doneS_ret, regS_some, condS_bool, bindS_some, rrun_nil, rrun_cons, outD_some, stepG_some, rstep_eq, callOut_some, callOut_none, mutCall_none, movCall_none, frzCall_none, frzCall_some, alt_none, alt_some, regrun_false, regrun_true, noLd_dt, mkLd_dt, frzLd_dt, ldR_dt, dtGet, rdraw_eq, rrunD_nil, rrunD_cons, contD_eq, rstepD_eq, outDr_some, outC_zero, outC_succ, needs, chk, stR, opR, jk, jkL, meets, shf, nums, sets, Op.operands, Call.operands, noM_mk, callV_fn, aop_call, take_map_all, guardOk, aop, ev, putD, ofV, ofV1, Value.oneCell', asNat, abin, aun, pickAV, scal, frz, TypeDesc.aggB, AV.cells, lenAV, getAt, loadCell, loadCells, res, resL, intern, internL, putCells, ownR, ownRL, ownV, drops, flat, kill, killL, killN, killNL, clean, keep, refsL, refs, once, place, renL, ren, ctx, G, resOk, resVars, resVar, ownR, ownRL, pack, viewEs, bndOf, appX, appY, List.range, List.range.loop, ty2, ty3, ty4, ty5, ty9, ty12, ty21, ty22, ty27, ty33, ty36, ty40, ty43, ty47, ty51, ty52, ty55, ty59, ty71, ty72, ty75, ty86, ty96, ty97, ty106, ty111, ty112, ty113, ty120, ty121, ty124, ty133, eqT, cellInts, bld, partOk, nilAV, bytesOf, intss, row, int, bool, mWithin, h1', h2', ha, rectB, h2]
    · have h1' : (decide (1 ≤ (rs.length : Int) + 1) && decide ((rs.length : Int) + 1 ≤ high)) = false := by simpa [inR] using h1
      simp [Tryd.f60, awp_skip, awp_seq, awp_block, awp_exit, awp_ret, awp_loop, awp_rangeF, awp_region, awp_cond, contS_normal, contS_exit, contS_ret, inB_normal, inB_exit, inB_ret, loopS_normal, loopS_exit, loopS_ret, doneS_normal, doneS_ret, regS_some, condS_bool, bindS_some, rrun_nil, rrun_cons, outD_some, stepG_some, rstep_eq, callOut_some, callOut_none, mutCall_none, movCall_none, frzCall_none, frzCall_some, alt_none, alt_some, regrun_false, regrun_true, noLd_dt, mkLd_dt, frzLd_dt, ldR_dt, dtGet, rdraw_eq, rrunD_nil, rrunD_cons, contD_eq, rstepD_eq, outDr_some, outC_zero, outC_succ, needs, chk, stR, opR, jk, jkL, meets, shf, nums, sets, Op.operands, Call.operands, noM_mk, callV_fn, aop_call, take_map_all, guardOk, aop, ev, putD, ofV, ofV1, Value.oneCell', asNat, abin, aun, pickAV, scal, frz, TypeDesc.aggB, AV.cells, lenAV, getAt, loadCell, loadCells, res, resL, intern, internL, putCells, ownR, ownRL, ownV, drops, flat, kill, killL, killN, killNL, clean, keep, refsL, refs, once, place, renL, ren, ctx, G, resOk, resVars, resVar, ownR, ownRL, pack, viewEs, bndOf, appX, appY, List.range, List.range.loop, ty2, ty3, ty4, ty5, ty9, ty12, ty21, ty22, ty27, ty33, ty36, ty40, ty43, ty47, ty51, ty52, ty55, ty59, ty71, ty72, ty75, ty86, ty96, ty97, ty106, ty111, ty112, ty113, ty120, ty121, ty124, ty133, eqT, cellInts, bld, partOk, nilAV, bytesOf, intss, row, int, bool, mWithin, h1', ha, rectB, h1]

end Go.Proofs.YtpjejdebdhgngaaDoor.Ax

/-
  Contracts of BidsOk and CakeOk. No condition.
-/
namespace Go.Proofs.YtpjejdebdhgngaaDoor.Ax
open Go Go.RowKit
set_option linter.unusedSimpArgs false

noncomputable def mGrid (a b c : Int) : List AV → Option AV := mk (fun _ => True) (fun (p : Bool × List (Bool × List Int)) => [intss p.1 p.2]) (fun p => bool (rectB p.2 a b c))
theorem mGrid_at {a b c : Int} (nl : Bool) (xs : List (Bool × List Int)) : mGrid a b c [.sl nl 1 (xs.map row)] = some (.v (.bool (rectB xs a b c))) :=
  mk_eq (enc := fun (p : Bool × List (Bool × List Int)) => [intss p.1 p.2]) (x := (nl, xs)) (by rintro ⟨x, x'⟩ ⟨y, y'⟩ h; simp [intss, map_row_inj] at h; simp [h]) trivial

theorem rectB_eq {xss : List (Bool × List Int)} {a b c : Int} (h : 0 < xss.length) : rectB xss a b c = (inR 1 a xss.length && inR 1 b xss[0].2.length && xss.all (rowIs xss[0].2.length c)) := by
  cases xss with
  | nil => simp at h
  | cons x xs => rfl
theorem rectB_nil {xss : List (Bool × List Int)} {a b c : Int} (h : ¬ 0 < xss.length) : rectB xss a b c = false := by
  cases xss with
  | nil => rfl
  | cons x xs => simp at h

theorem all_of {α : Type} {p : α → Bool} {xs : List α} (h : ∀ j (hj : j < xs.length), j < xs.length → p xs[j] = true) : xs.all p = true := by
  rw [List.all_eq_true]
  intro x hx
  obtain ⟨i, hi, rfl⟩ := List.getElem_of_mem hx
  exact h i hi hi
theorem all_not {α : Type} {p : α → Bool} {xs : List α} {k : Nat} (hk : k < xs.length) (h : p xs[k] = false) : xs.all p = false := by
  rw [List.all_eq_false]
  exact ⟨xs[k], List.getElem_mem hk, by simp [h]⟩

theorem implBidsOk_ok : FnOk Tryd.prog 43 (mGrid 4 4 1000) := by
  refine mk_ok fun ⟨nl, xss⟩ _ => ?_
  have hG : FnsOk Tryd.prog [(60, mRect)] := .cons rectangle_ok .nil
  refine callOk_of_awp (ctx_ok eqOk hG) mixed (live := [true, false, true]) (dt := []) Tryd.func43 rfl (by kernel_rfl) (by kernel_rfl) fun w0 => ?_
  simp [Tryd.f43, awp_skip, awp_seq, awp_block, awp_exit, awp_ret, awp_loop, awp_rangeF, awp_region, awp_cond, contS_normal, contS_exit, contS_ret, inB_normal, inB_exit, inB_ret, loopS_normal, loopS_exit, loopS_ret, doneS_normal, doneS_ret, regS_some, condS_bool, bindS_some, rrun_nil, rrun_cons, outD_some, stepG_some, rstep_eq, callOut_some, callOut_none, mutCall_none, movCall_none, frzCall_none, frzCall_some, alt_none, alt_some, regrun_false, regrun_true, noLd_dt, mkLd_dt, frzLd_dt, ldR_dt, dtGet, rdraw_eq, rrunD_nil, rrunD_cons, contD_eq, rstepD_eq, outDr_some, outC_zero, outC_succ, needs, chk, stR, opR, jk, jkL, meets, shf, nums, sets, Op.operands, Call.operands, noM_mk, callV_fn, aop_call, take_map_all, guardOk, aop, ev, putD, ofV, ofV1, Value.oneCell', asNat, abin, aun, pickAV, scal, frz, TypeDesc.aggB, AV.cells, lenAV, getAt, loadCell, loadCells, res, resL, intern, internL, putCells, ownR, ownRL, ownV, drops, flat, kill, killL, killN, killNL, clean, keep, refsL, refs, once, place, renL, ren, ctx, G, resOk, resVars, resVar, ownR, ownRL, pack, viewEs, bndOf, appX, appY, List.range, List.range.loop, ty2, ty3, ty4, ty5, ty9, ty12, ty21, ty22, ty27, ty33, ty36, ty40, ty43, ty47, ty51, ty52, ty55, ty59, ty71, ty72, ty75, ty86, ty96, ty97, ty106, ty111, ty112, ty113, ty120, ty121, ty124, ty133, eqT, cellInts, bld, partOk, nilAV, bytesOf, intss, bool, mRect_at nl xss _ _ _]

theorem need_small {xss : List (Bool × List Int)} (h : need xss ≤ 1048576) : small xss := by
  simp only [need] at h
  refine ⟨by omega, fun x hx => ?_⟩
  obtain ⟨i, hi, rfl⟩ := List.getElem_of_mem hx
  have h1 := rowSum_succ hi
  have h2 := rowSum_mono (xss := xss) (show i + 1 ≤ xss.length from hi)
  omega
theorem own_small {xss : List (Bool × List Int)} (h : small xss) : small (own xss) := by
  refine ⟨by rw [own_len]; exact h.1, fun x hx => ?_⟩
  simp only [own, List.mem_map] at hx
  obtain ⟨y, hy, rfl⟩ := hx
  exact h.2 y hy

end Go.Proofs.YtpjejdebdhgngaaDoor.Ax

/-
  Contracts of the reference's BidsOk and CakeOk. No condition.
-/
namespace Go.Proofs.YtpjejdebdhgngaaDoor.Ax
open Go Go.RowKit
set_option linter.unusedSimpArgs false

set_option maxHeartbeats 2000000 in
theorem specBidsOk_ok : FnOk Tryd.prog 40 (mGrid 4 4 1000) := by
  refine mk_ok fun ⟨nl, xss⟩ _ => ?_
  have hG : FnsOk Tryd.prog [(50, mWithin)] := .cons l01In_ok .nil
  refine callOk_awp (ctx_ok eqOk hG) mixed (live := [true, false, true, false, true, false, true, false, false, false, false, false, false, false, false, false, false, false, true, true, true, true, true, false, false, false, false, false, false, false, false, true, true, true, true, true, false, false, false, false, true]) (dt := []) Tryd.func40 rfl (by kernel_rfl) (by kernel_rfl) fun w0 hlens => ?_
  have hpr : ∀ x ∈ xss, x.2.length ≤ 9223372036854775807 ∧ (x.1 = true → x.2 = []) := (lens_intss.1 hlens.1).2
  have hp : xss.length ≤ 9223372036854775807 := (lens_intss.1 hlens.1).1.1
  by_cases h1 : inR 1 4 xss.length = true
  rotate_left
  · have h1' : (decide (1 ≤ (xss.length : Int)) && decide ((xss.length : Int) ≤ 4)) = false := by simpa [inR] using h1
    have hr : rectB xss 4 4 1000 = false := by
      by_cases h0 : 0 < xss.length
      · rw [rectB_eq h0]; simp [h1]
      · exact rectB_nil h0
    simp [Tryd.f40, awp_skip, awp_seq, awp_block, awp_exit, awp_ret, awp_loop, awp_rangeF, awp_region, awp_cond, contS_normal, contS_exit, contS_ret, inB_normal, inB_exit, inB_ret, loopS_normal, loopS_exit, loopS_ret, doneS_normal, doneS_ret, regS_some, condS_bool, bindS_some, rrun_nil, rrun_cons, outD_some, stepG_some, rstep_eq, callOut_some, callOut_none, mutCall_none, movCall_none, frzCall_none, frzCall_some, alt_none, alt_some, regrun_false, regrun_true, noLd_dt, mkLd_dt, frzLd_dt, ldR_dt, dtGet, rdraw_eq, rrunD_nil, rrunD_cons, contD_eq, rstepD_eq, outDr_some, outC_zero, outC_succ, needs, chk, stR, opR, jk, jkL, meets, shf, nums, sets, Op.operands, Call.operands, noM_mk, callV_fn, aop_call, take_map_all, guardOk, aop, ev, putD, ofV, ofV1, Value.oneCell', asNat, abin, aun, pickAV, scal, frz, TypeDesc.aggB, AV.cells, lenAV, getAt, loadCell, loadCells, res, resL, intern, internL, putCells, ownR, ownRL, ownV, drops, flat, kill, killL, killN, killNL, clean, keep, refsL, refs, once, place, renL, ren, ctx, G, resOk, resVars, resVar, ownR, ownRL, pack, viewEs, bndOf, appX, appY, List.range, List.range.loop, ty2, ty3, ty4, ty5, ty9, ty12, ty21, ty22, ty27, ty33, ty36, ty40, ty43, ty47, ty51, ty52, ty55, ty59, ty71, ty72, ty75, ty86, ty96, ty97, ty106, ty111, ty112, ty113, ty120, ty121, ty124, ty133, eqT, cellInts, bld, partOk, nilAV, bytesOf, intss, int, bool, mWithin, h1', hr]
  have h0 : 0 < xss.length := by simp [inR] at h1; omega
  have hre := rectB_eq (a := 4) (b := 4) (c := 1000) h0
  have h1' : (1 : Int) ≤ (xss.length : Int) ∧ (xss.length : Int) ≤ 4 := by simpa [inR] using h1
  by_cases h2 : inR 1 4 xss[0].2.length = true
  rotate_left
  · have h2' : (decide (1 ≤ (xss[0].2.length : Int)) && decide ((xss[0].2.length : Int) ≤ 4)) = false := by simpa [inR] using h2
    simp [h1, h2] at hre
    simp [Tryd.f40, awp_skip, awp_seq, awp_block, awp_exit, awp_ret, awp_loop, awp_rangeF, awp_region, awp_cond, contS_normal, contS_exit, contS_ret, inB_normal, inB_exit, inB_ret, loopS_normal, loopS_exit, loopS_ret, doneS_normal, doneS_ret, regS_some, condS_bool, bindS_some, rrun_nil, rrun_cons, outD_some, stepG_some, rstep_eq, callOut_some, callOut_none, mutCall_none, movCall_none, frzCall_none, frzCall_some, alt_none, alt_some, regrun_false, regrun_true, noLd_dt, mkLd_dt, frzLd_dt, ldR_dt, dtGet, rdraw_eq, rrunD_nil, rrunD_cons, contD_eq, rstepD_eq, outDr_some, outC_zero, outC_succ, needs, chk, stR, opR, jk, jkL, meets, shf, nums, sets, Op.operands, Call.operands, noM_mk, callV_fn, aop_call, take_map_all, guardOk, aop, ev, putD, ofV, ofV1, Value.oneCell', asNat, abin, aun, pickAV, scal, frz, TypeDesc.aggB, AV.cells, lenAV, getAt, loadCell, loadCells, res, resL, intern, internL, putCells, ownR, ownRL, ownV, drops, flat, kill, killL, killN, killNL, clean, keep, refsL, refs, once, place, renL, ren, ctx, G, resOk, resVars, resVar, ownR, ownRL, pack, viewEs, bndOf, appX, appY, List.range, List.range.loop, ty2, ty3, ty4, ty5, ty9, ty12, ty21, ty22, ty27, ty33, ty36, ty40, ty43, ty47, ty51, ty52, ty55, ty59, ty71, ty72, ty75, ty86, ty96, ty97, ty106, ty111, ty112, ty113, ty120, ty121, ty124, ty133, eqT, cellInts, bld, partOk, nilAV, bytesOf, intss, row, int, bool, mWithin, h1', h2', hre, h0]
    intro a b
    exfalso
    simp [inR] at h2
    omega
  have h2' : (1 : Int) ≤ (xss[0].2.length : Int) ∧ (xss[0].2.length : Int) ≤ 4 := by simpa [inR] using h2
  rw [h1, h2] at hre
  simp only [Bool.true_and] at hre
  generalize hrb : rectB xss 4 4 1000 = rb at hre ⊢
  simp [Tryd.f40, awp_skip, awp_seq, awp_block, awp_exit, awp_ret, awp_loop, awp_rangeF, awp_region, awp_cond, contS_normal, contS_exit, contS_ret, inB_normal, inB_exit, inB_ret, loopS_normal, loopS_exit, loopS_ret, doneS_normal, doneS_ret, regS_some, condS_bool, bindS_some, rrun_nil, rrun_cons, outD_some, stepG_some, rstep_eq, callOut_some, callOut_none, mutCall_none, movCall_none, frzCall_none, frzCall_some, alt_none, alt_some, regrun_false, regrun_true, noLd_dt, mkLd_dt, frzLd_dt, ldR_dt, dtGet, rdraw_eq, rrunD_nil, rrunD_cons, contD_eq, rstepD_eq, outDr_some, outC_zero, outC_succ, needs, chk, stR, opR, jk, jkL, meets, shf, nums, sets, Op.operands, Call.operands, noM_mk, callV_fn, aop_call, take_map_all, guardOk, aop, ev, putD, ofV, ofV1, Value.oneCell', asNat, abin, aun, pickAV, scal, frz, TypeDesc.aggB, AV.cells, lenAV, getAt, loadCell, loadCells, res, resL, intern, internL, putCells, ownR, ownRL, ownV, drops, flat, kill, killL, killN, killNL, clean, keep, refsL, refs, once, place, renL, ren, ctx, G, resOk, resVars, resVar, ownR, ownRL, pack, viewEs, bndOf, appX, appY, List.range, List.range.loop, ty2, ty3, ty4, ty5, ty9, ty12, ty21, ty22, ty27, ty33, ty36, ty40, ty43, ty47, ty51, ty52, ty55, ty59, ty71, ty72, ty75, ty86, ty96, ty97, ty106, ty111, ty112, ty113, ty120, ty121, ty124, ty133, eqT, cellInts, bld, partOk, nilAV, bytesOf, intss, row, int, bool, mWithin, h1', h2', h0]
  refine awp_loop_of (ctx_ok eqOk hG) mixed (live := [true, false, true, false, true, false, true, false, false, false, false, false, false, false, false, false, false, false, true, true, true, true, true, false, false, false, false, false, false, false, false, true, true, true, true, true, false, false, false, false, true]) [true, false, false, false, false, false, false, false, false, false, false, false, false, false, false, false, false, false, false, true, true, true] (α := {k : Nat // k ≤ xss.length ∧ ∀ j (hj : j < xss.length), j < k → rowIs xss[0].2.length 1000 xss[j] = true})
    (fun k => ⟨[intss nl xss, .junk, .junk, .junk, .junk, .junk, .junk, .junk, .junk, .junk, .junk, .junk, .junk, .junk, .junk, .junk, .junk, .junk, .junk, intss nl xss, int xss.length, int k.1, .junk, .junk, .junk, .junk, .junk, .junk, .junk, .junk, .junk, .junk, .junk, .junk, .junk, .junk, .junk, .junk, .junk, .junk, .junk, .junk, .junk], []⟩) (fun k => xss.length - k.1) ⟨0, by omega, by omega⟩
    (by simp [sub, slotsLe, clean, keep, refsL, refs, once, place, renL, ren, List.replicate, int, bool, intss]) ?_
  rintro ⟨k, hk, hno⟩
  by_cases h : k < xss.length
  · by_cases hl : xss[k].2.length = xss[0].2.length
    · simp [awp_skip, awp_seq, awp_block, awp_exit, awp_ret, awp_loop, awp_rangeF, awp_region, awp_cond, contS_normal, contS_exit, contS_ret, inB_normal, inB_exit, inB_ret, loopS_normal, loopS_exit, loopS_ret, doneS_normal, doneS_ret, regS_some, condS_bool, bindS_some, rrun_nil, rrun_cons, outD_some, stepG_some, rstep_eq, callOut_some, callOut_none, mutCall_none, movCall_none, frzCall_none, frzCall_some, alt_none, alt_some, regrun_false, regrun_true, noLd_dt, mkLd_dt, frzLd_dt, ldR_dt, dtGet, rdraw_eq, rrunD_nil, rrunD_cons, contD_eq, rstepD_eq, outDr_some, outC_zero, outC_succ, needs, chk, stR, opR, jk, jkL, meets, shf, nums, sets, Op.operands, Call.operands, noM_mk, callV_fn, aop_call, take_map_all, guardOk, aop, ev, putD, ofV, ofV1, Value.oneCell', asNat, abin, aun, pickAV, scal, frz, TypeDesc.aggB, AV.cells, lenAV, getAt, loadCell, loadCells, res, resL, intern, internL, putCells, ownR, ownRL, ownV, drops, flat, kill, killL, killN, killNL, clean, keep, refsL, refs, once, place, renL, ren, ctx, G, resOk, resVars, resVar, ownR, ownRL, pack, viewEs, bndOf, appX, appY, List.range, List.range.loop, ty2, ty3, ty4, ty5, ty9, ty12, ty21, ty22, ty27, ty33, ty36, ty40, ty43, ty47, ty51, ty52, ty55, ty59, ty71, ty72, ty75, ty86, ty96, ty97, ty106, ty111, ty112, ty113, ty120, ty121, ty124, ty133, eqT, cellInts, bld, partOk, nilAV, bytesOf, intss, row, int, bool, mWithin, h, h0, hl]
      refine awp_loop_of (ctx_ok eqOk hG) mixed (live := [true, false, true, false, true, false, true, false, false, false, false, false, false, false, false, false, false, false, true, true, true, true, true, false, false, false, false, false, false, false, false, true, true, true, true, true, false, false, false, false, true]) [true, false, false, false, false, false, false, false, false, false, false, false, false, false, false, false, false, false, false, true, true, true, false, false, false, false, false, false, false, false, false, false, true, true, true] (α := {m : Nat // m ≤ xss[k].2.length ∧ ∀ j (hj : j < xss[k].2.length), j < m → inR 0 1000 xss[k].2[j] = true})
        (fun m => ⟨[intss nl xss, .junk, .junk, .junk, .junk, .junk, .junk, .junk, .junk, .junk, .junk, .junk, .junk, .junk, .junk, .junk, .junk, .junk, .junk, intss nl xss, int xss.length, int k, .junk, .junk, .junk, .junk, .junk, .junk, .junk, .junk, .junk, .junk, row xss[k], int xss[k].2.length, int m.1, .junk, .junk, .junk, .junk, .junk, .junk, .junk, .junk], []⟩) (fun m => xss[k].2.length - m.1) ⟨0, by omega, by omega⟩
        (by simp [sub, slotsLe, clean, keep, refsL, refs, once, place, renL, ren, List.replicate, int, bool, intss, row, hl]) ?_
      rintro ⟨m, hm, hmo⟩
      by_cases hx : m < xss[k].2.length
      · cases hv : inR 0 1000 xss[k].2[m] with
        | true =>
          have hv' : (0 : Int) ≤ xss[k].2[m] ∧ xss[k].2[m] ≤ 1000 := by simpa [inR] using hv
          simp [awp_skip, awp_seq, awp_block, awp_exit, awp_ret, awp_loop, awp_rangeF, awp_region, awp_cond, contS_normal, contS_exit, contS_ret, inB_normal, inB_exit, inB_ret, loopS_normal, loopS_exit, loopS_ret, doneS_normal, doneS_ret, regS_some, condS_bool, bindS_some, rrun_nil, rrun_cons, outD_some, stepG_some, rstep_eq, callOut_some, callOut_none, mutCall_none, movCall_none, frzCall_none, frzCall_some, alt_none, alt_some, regrun_false, regrun_true, noLd_dt, mkLd_dt, frzLd_dt, ldR_dt, dtGet, rdraw_eq, rrunD_nil, rrunD_cons, contD_eq, rstepD_eq, outDr_some, outC_zero, outC_succ, needs, chk, stR, opR, jk, jkL, meets, shf, nums, sets, Op.operands, Call.operands, noM_mk, callV_fn, aop_call, take_map_all, guardOk, aop, ev, putD, ofV, ofV1, Value.oneCell', asNat, abin, aun, pickAV, scal, frz, TypeDesc.aggB, AV.cells, lenAV, getAt, loadCell, loadCells, res, resL, intern, internL, putCells, ownR, ownRL, ownV, drops, flat, kill, killL, killN, killNL, clean, keep, refsL, refs, once, place, renL, ren, ctx, G, resOk, resVars, resVar, ownR, ownRL, pack, viewEs, bndOf, appX, appY, List.range, List.range.loop, ty2, ty3, ty4, ty5, ty9, ty12, ty21, ty22, ty27, ty33, ty36, ty40, ty43, ty47, ty51, ty52, ty55, ty59, ty71, ty72, ty75, ty86, ty96, ty97, ty106, ty111, ty112, ty113, ty120, ty121, ty124, ty133, eqT, cellInts, bld, partOk, nilAV, bytesOf, intss, row, int, bool, mWithin, h, h0, hx, hv']
          refine ⟨⟨m + 1, hx, fun j hj hjm => ?_⟩, ?_, by simp; omega⟩
          · by_cases e : j = m
            · subst e; exact hv
            · exact hmo j hj (by omega)
          simp [sub, slotsLe, clean, keep, refsL, refs, once, place, renL, ren, List.replicate, int, bool, intss, row]
          exact wrapI (by omega) (by have := hpr xss[k] (List.getElem_mem _); omega)
        | false =>
          have hv' : (decide ((0 : Int) ≤ xss[k].2[m]) && decide (xss[k].2[m] ≤ 1000)) = false := by simpa [inR] using hv
          have hf : rowIs xss[0].2.length 1000 xss[k] = false := by simp only [rowIs, Bool.and_eq_false_iff]; exact .inr (all_not hx hv)
          rw [all_not h hf] at hre
          simp [awp_skip, awp_seq, awp_block, awp_exit, awp_ret, awp_loop, awp_rangeF, awp_region, awp_cond, contS_normal, contS_exit, contS_ret, inB_normal, inB_exit, inB_ret, loopS_normal, loopS_exit, loopS_ret, doneS_normal, doneS_ret, regS_some, condS_bool, bindS_some, rrun_nil, rrun_cons, outD_some, stepG_some, rstep_eq, callOut_some, callOut_none, mutCall_none, movCall_none, frzCall_none, frzCall_some, alt_none, alt_some, regrun_false, regrun_true, noLd_dt, mkLd_dt, frzLd_dt, ldR_dt, dtGet, rdraw_eq, rrunD_nil, rrunD_cons, contD_eq, rstepD_eq, outDr_some, outC_zero, outC_succ, needs, chk, stR, opR, jk, jkL, meets, shf, nums, sets, Op.operands, Call.operands, noM_mk, callV_fn, aop_call, take_map_all, guardOk, aop, ev, putD, ofV, ofV1, Value.oneCell', asNat, abin, aun, pickAV, scal, frz, TypeDesc.aggB, AV.cells, lenAV, getAt, loadCell, loadCells, res, resL, intern, internL, putCells, ownR, ownRL, ownV, drops, flat, kill, killL, killN, killNL, clean, keep, refsL, refs, once, place, renL, ren, ctx, G, resOk, resVars, resVar, ownR, ownRL, pack, viewEs, bndOf, appX, appY, List.range, List.range.loop, ty2, ty3, ty4, ty5, ty9, ty12, ty21, ty22, ty27, ty33, ty36, ty40, ty43, ty47, ty51, ty52, ty55, ty59, ty71, ty72, ty75, ty86, ty96, ty97, ty106, ty111, ty112, ty113, ty120, ty121, ty124, ty133, eqT, cellInts, bld, partOk, nilAV, bytesOf, intss, row, int, bool, mWithin, h, h0, hx, hv', hre]
      · have hm' : m = xss[k].2.length := by omega
        subst hm'
        simp [awp_skip, awp_seq, awp_block, awp_exit, awp_ret, awp_loop, awp_rangeF, awp_region, awp_cond, contS_normal, contS_exit, contS_ret, inB_normal, inB_exit, inB_ret, loopS_normal, loopS_exit, loopS_ret, doneS_normal, doneS_ret, regS_some, condS_bool, bindS_some, rrun_nil, rrun_cons, outD_some, stepG_some, rstep_eq, callOut_some, callOut_none, mutCall_none, movCall_none, frzCall_none, frzCall_some, alt_none, alt_some, regrun_false, regrun_true, noLd_dt, mkLd_dt, frzLd_dt, ldR_dt, dtGet, rdraw_eq, rrunD_nil, rrunD_cons, contD_eq, rstepD_eq, outDr_some, outC_zero, outC_succ, needs, chk, stR, opR, jk, jkL, meets, shf, nums, sets, Op.operands, Call.operands, noM_mk, callV_fn, aop_call, take_map_all, guardOk, aop, ev, putD, ofV, ofV1, Value.oneCell', asNat, abin, aun, pickAV, scal, frz, TypeDesc.aggB, AV.cells, lenAV, getAt, loadCell, loadCells, res, resL, intern, internL, putCells, ownR, ownRL, ownV, drops, flat, kill, killL, killN, killNL, clean, keep, refsL, refs, once, place, renL, ren, ctx, G, resOk, resVars, resVar, ownR, ownRL, pack, viewEs, bndOf, appX, appY, List.range, List.range.loop, ty2, ty3, ty4, ty5, ty9, ty12, ty21, ty22, ty27, ty33, ty36, ty40, ty43, ty47, ty51, ty52, ty55, ty59, ty71, ty72, ty75, ty86, ty96, ty97, ty106, ty111, ty112, ty113, ty120, ty121, ty124, ty133, eqT, cellInts, bld, partOk, nilAV, bytesOf, intss, row, int, bool, mWithin, h, h0]
        refine ⟨⟨k + 1, h, fun j hj hjk => ?_⟩, ?_, by simp; omega⟩
        · by_cases e : j = k
          · subst e; simp only [rowIs, Bool.and_eq_true, decide_eq_true_eq]; exact ⟨hl, all_of hmo⟩
          · exact hno j hj (by omega)
        simp [sub, slotsLe, clean, keep, refsL, refs, once, place, renL, ren, List.replicate, int, bool, intss]
        exact wrapI (by omega) (by omega)
    · have hl' : ((xss[k].2.length : Int) != xss[0].2.length) = true := by simp; omega
      have hf : rowIs xss[0].2.length 1000 xss[k] = false := by simp [rowIs, hl]
      rw [all_not h hf] at hre
      simp [awp_skip, awp_seq, awp_block, awp_exit, awp_ret, awp_loop, awp_rangeF, awp_region, awp_cond, contS_normal, contS_exit, contS_ret, inB_normal, inB_exit, inB_ret, loopS_normal, loopS_exit, loopS_ret, doneS_normal, doneS_ret, regS_some, condS_bool, bindS_some, rrun_nil, rrun_cons, outD_some, stepG_some, rstep_eq, callOut_some, callOut_none, mutCall_none, movCall_none, frzCall_none, frzCall_some, alt_none, alt_some, regrun_false, regrun_true, noLd_dt, mkLd_dt, frzLd_dt, ldR_dt, dtGet, rdraw_eq, rrunD_nil, rrunD_cons, contD_eq, rstepD_eq, outDr_some, outC_zero, outC_succ, needs, chk, stR, opR, jk, jkL, meets, shf, nums, sets, Op.operands, Call.operands, noM_mk, callV_fn, aop_call, take_map_all, guardOk, aop, ev, putD, ofV, ofV1, Value.oneCell', asNat, abin, aun, pickAV, scal, frz, TypeDesc.aggB, AV.cells, lenAV, getAt, loadCell, loadCells, res, resL, intern, internL, putCells, ownR, ownRL, ownV, drops, flat, kill, killL, killN, killNL, clean, keep, refsL, refs, once, place, renL, ren, ctx, G, resOk, resVars, resVar, ownR, ownRL, pack, viewEs, bndOf, appX, appY, List.range, List.range.loop, ty2, ty3, ty4, ty5, ty9, ty12, ty21, ty22, ty27, ty33, ty36, ty40, ty43, ty47, ty51, ty52, ty55, ty59, ty71, ty72, ty75, ty86, ty96, ty97, ty106, ty111, ty112, ty113, ty120, ty121, ty124, ty133, eqT, cellInts, bld, partOk, nilAV, bytesOf, intss, row, int, bool, mWithin, h, h0, hl, hl', hre]
  · have hk' : k = xss.length := by omega
    subst hk'
    rw [all_of hno] at hre
    simp [awp_skip, awp_seq, awp_block, awp_exit, awp_ret, awp_loop, awp_rangeF, awp_region, awp_cond, contS_normal, contS_exit, contS_ret, inB_normal, inB_exit, inB_ret, loopS_normal, loopS_exit, loopS_ret, doneS_normal, doneS_ret, regS_some, condS_bool, bindS_some, rrun_nil, rrun_cons, outD_some, stepG_some, rstep_eq, callOut_some, callOut_none, mutCall_none, movCall_none, frzCall_none, frzCall_some, alt_none, alt_some, regrun_false, regrun_true, noLd_dt, mkLd_dt, frzLd_dt, ldR_dt, dtGet, rdraw_eq, rrunD_nil, rrunD_cons, contD_eq, rstepD_eq, outDr_some, outC_zero, outC_succ, needs, chk, stR, opR, jk, jkL, meets, shf, nums, sets, Op.operands, Call.operands, noM_mk, callV_fn, aop_call, take_map_all, guardOk, aop, ev, putD, ofV, ofV1, Value.oneCell', asNat, abin, aun, pickAV, scal, frz, TypeDesc.aggB, AV.cells, lenAV, getAt, loadCell, loadCells, res, resL, intern, internL, putCells, ownR, ownRL, ownV, drops, flat, kill, killL, killN, killNL, clean, keep, refsL, refs, once, place, renL, ren, ctx, G, resOk, resVars, resVar, ownR, ownRL, pack, viewEs, bndOf, appX, appY, List.range, List.range.loop, ty2, ty3, ty4, ty5, ty9, ty12, ty21, ty22, ty27, ty33, ty36, ty40, ty43, ty47, ty51, ty52, ty55, ty59, ty71, ty72, ty75, ty86, ty96, ty97, ty106, ty111, ty112, ty113, ty120, ty121, ty124, ty133, eqT, cellInts, bld, partOk, nilAV, bytesOf, intss, int, bool, hre]

end Go.Proofs.YtpjejdebdhgngaaDoor.Ax

/-
  Contracts of the two PointsOk. No condition.
-/
namespace Go.Proofs.YtpjejdebdhgngaaDoor.Ax
open Go Go.RowKit
set_option linter.unusedSimpArgs false

/-- A row of n numbers from 0 to 100 that come to 100. -/
def rowP (n : Nat) (r : Bool × List Int) : Bool := rowIs n 100 r && decide (sumW r.2 = 100)
def pointsB (xss : List (Bool × List Int)) : Bool := match xss with
  | [a, b] => inR 1 6 a.2.length && (rowP a.2.length a && rowP a.2.length b)
  | _ => false
theorem pointsB_eq {xss : List (Bool × List Int)} (h : xss.length = 2) : pointsB xss = (inR 1 6 (xss[0]'(by omega)).2.length && xss.all (rowP (xss[0]'(by omega)).2.length)) := by
  match xss, h with
  | [a, b], _ => simp [pointsB]
theorem pointsB_ne {xss : List (Bool × List Int)} (h : ¬ xss.length = 2) : pointsB xss = false := by
  match xss, h with
  | [], _ => rfl
  | [a], _ => rfl
  | [a, b], h => simp at h
  | a :: b :: c :: l, _ => rfl
theorem pointsB_rect {xss : List (Bool × List Int)} (h : xss.length = 2) : pointsB xss = (rectB xss 2 6 100 && (decide (sumW (xss[0]'(by omega)).2 = 100) && decide (sumW (xss[1]'(by omega)).2 = 100))) := by
  match xss, h with
  | [a, b], _ =>
    simp only [pointsB, rectB, rowP, List.all_cons, List.all_nil, List.getElem_cons_zero, List.getElem_cons_succ, List.length_cons, List.length_nil]
    rw [show inR 1 2 ((0 + 1 + 1 : Nat) : Int) = true from rfl]
    generalize inR 1 6 _ = p
    generalize rowIs _ _ a = q
    generalize rowIs _ _ b = r
    generalize decide (sumW a.2 = 100) = s
    generalize decide (sumW b.2 = 100) = t
    cases p <;> cases q <;> cases r <;> cases s <;> cases t <;> rfl

noncomputable def mPoints : List AV → Option AV := mk (fun _ => True) (fun (p : Bool × List (Bool × List Int)) => [intss p.1 p.2]) (fun p => bool (pointsB p.2))
theorem mPoints_at (nl : Bool) (xs : List (Bool × List Int)) : mPoints [.sl nl 1 (xs.map row)] = some (.v (.bool (pointsB xs))) :=
  mk_eq (enc := fun (p : Bool × List (Bool × List Int)) => [intss p.1 p.2]) (x := (nl, xs)) (by rintro ⟨x, x'⟩ ⟨y, y'⟩ h; simp [intss, map_row_inj] at h; simp [h]) trivial

end Go.Proofs.YtpjejdebdhgngaaDoor.Ax

/-
  Contracts of the library's searches over a list by a function. No condition.
-/
namespace Go.Proofs.YtpjejdebdhgngaaDoor.Ax
open Go Go.RowKit
set_option linter.unusedSimpArgs false

theorem lens_fracs {nl : Bool} {xs : List (Int × Int)} : lens (.sl nl 2 (xs.map frac)) ↔ xs.length ≤ 9223372036854775807 ∧ (nl = true → xs = []) := by
  simp [lens, lensL_map, lensL, frac]

set_option maxHeartbeats 1000000 in
theorem indexFracs {g : FuncId} {caps : List AV} (hc : Pure caps) (p : Int × Int → Bool) (nl : Bool) (xs : List (Int × Int)) (hg : ∀ x ∈ xs, CallOk Tryd.prog g (frac x :: caps) (.v (.bool (p x)))) :
    CallOk Tryd.prog 71 [fracs nl xs, .fn g caps] (int (idxOf p xs)) := by
  have hG : FnsOk Tryd.prog [(g, mk (fun x => x ∈ xs) (fun x : Int × Int => frac x :: caps) (fun x => .v (.bool (p x))))] := .cons (mk_ok fun x hx => hg x hx) .nil
  have hat : ∀ k (h : k < xs.length), mk (fun x => x ∈ xs) (fun x : Int × Int => (frac x : AV) :: caps) (fun x => AV.v (.bool (p x))) (frac xs[k] :: caps) = some (.v (.bool (p xs[k]))) := fun k h =>
    mk_eq (enc := fun x : Int × Int => (frac x : AV) :: caps) (x := xs[k]) (by intro x y h; simp [frac_inj] at h; simp [h]) (List.getElem_mem h)
  generalize hm : mk (fun x => x ∈ xs) (fun x : Int × Int => (frac x : AV) :: caps) (fun x => AV.v (.bool (p x))) = m at hG hat
  try simp only [fracs, frac] at hat
  refine callOk_awp (ctx_ok eqOk hG) mixed (live := [true, true, false, false, true, true, false, true, true, true, false, false, false, false, false, false, true]) (dt := []) Tryd.func71 rfl (by kernel_rfl) (by kernel_rfl) fun w0 hlens => ?_
  have hlen : xs.length ≤ 9223372036854775807 := (lens_fracs.1 hlens.1).1
  simp [Tryd.f71, awp_skip, awp_seq, awp_block, awp_exit, awp_ret, awp_loop, awp_rangeF, awp_region, awp_cond, contS_normal, contS_exit, contS_ret, inB_normal, inB_exit, inB_ret, loopS_normal, loopS_exit, loopS_ret, doneS_normal, doneS_ret, regS_some, condS_bool, bindS_some, rrun_nil, rrun_cons, outD_some, stepG_some, rstep_eq, callOut_some, callOut_none, mutCall_none, movCall_none, frzCall_none, frzCall_some, alt_none, alt_some, regrun_false, regrun_true, noLd_dt, mkLd_dt, frzLd_dt, ldR_dt, dtGet, rdraw_eq, rrunD_nil, rrunD_cons, contD_eq, rstepD_eq, outDr_some, outC_zero, outC_succ, needs, chk, stR, opR, jk, jkL, meets, shf, nums, sets, Op.operands, Call.operands, noM_mk, callV_fn, aop_call, take_map_all, guardOk, aop, ev, putD, ofV, ofV1, Value.oneCell', asNat, abin, aun, pickAV, scal, frz, TypeDesc.aggB, AV.cells, lenAV, getAt, loadCell, loadCells, res, resL, intern, internL, putCells, ownR, ownRL, ownV, drops, flat, kill, killL, killN, killNL, clean, keep, refsL, refs, once, place, renL, ren, ctx, G, resOk, resVars, resVar, ownR, ownRL, pack, viewEs, bndOf, appX, appY, List.range, List.range.loop, ty2, ty3, ty4, ty5, ty9, ty12, ty21, ty22, ty27, ty33, ty36, ty40, ty43, ty47, ty51, ty52, ty55, ty59, ty71, ty72, ty75, ty86, ty96, ty97, ty106, ty111, ty112, ty113, ty120, ty121, ty124, ty133, eqT, cellInts, bld, partOk, nilAV, bytesOf, fracs, frac, hc.res, hc.refs, hc.ren]
  refine awp_loop_of (ctx_ok eqOk hG) mixed (live := [true, true, false, false, true, true, false, true, true, true, false, false, false, false, false, false, true]) [true, true, false, false, false, false, false, true, true] (α := {k : Nat // k ≤ xs.length ∧ ∀ j (hj : j < xs.length), j < k → p xs[j] = false})
    (fun k => ⟨[fracs nl xs, .fn g caps, .junk, .junk, .junk, .junk, .junk, int xs.length, int k.1] ++ List.replicate 10 .junk, []⟩) (fun k => xs.length - k.1) ⟨0, by omega, by omega⟩
    (by simp [sub, slotsLe, clean, keep, refsL, refs, once, place, renL, ren, List.replicate, int, bool, fracs, frac, hc.refs, hc.ren]) ?_
  rintro ⟨k, hk, hno⟩
  by_cases h : k < xs.length
  · have hz := hat k h
    cases hp : p xs[k] with
    | true =>
      rw [hp] at hz
      simp [awp_skip, awp_seq, awp_block, awp_exit, awp_ret, awp_loop, awp_rangeF, awp_region, awp_cond, contS_normal, contS_exit, contS_ret, inB_normal, inB_exit, inB_ret, loopS_normal, loopS_exit, loopS_ret, doneS_normal, doneS_ret, regS_some, condS_bool, bindS_some, rrun_nil, rrun_cons, outD_some, stepG_some, rstep_eq, callOut_some, callOut_none, mutCall_none, movCall_none, frzCall_none, frzCall_some, alt_none, alt_some, regrun_false, regrun_true, noLd_dt, mkLd_dt, frzLd_dt, ldR_dt, dtGet, rdraw_eq, rrunD_nil, rrunD_cons, contD_eq, rstepD_eq, outDr_some, outC_zero, outC_succ, needs, chk, stR, opR, jk, jkL, meets, shf, nums, sets, Op.operands, Call.operands, noM_mk, callV_fn, aop_call, take_map_all, guardOk, aop, ev, putD, ofV, ofV1, Value.oneCell', asNat, abin, aun, pickAV, scal, frz, TypeDesc.aggB, AV.cells, lenAV, getAt, loadCell, loadCells, res, resL, intern, internL, putCells, ownR, ownRL, ownV, drops, flat, kill, killL, killN, killNL, clean, keep, refsL, refs, once, place, renL, ren, ctx, G, resOk, resVars, resVar, ownR, ownRL, pack, viewEs, bndOf, appX, appY, List.range, List.range.loop, ty2, ty3, ty4, ty5, ty9, ty12, ty21, ty22, ty27, ty33, ty36, ty40, ty43, ty47, ty51, ty52, ty55, ty59, ty71, ty72, ty75, ty86, ty96, ty97, ty106, ty111, ty112, ty113, ty120, ty121, ty124, ty133, eqT, cellInts, bld, partOk, nilAV, bytesOf, fracs, frac, int, h, List.replicate, hc.res, hc.refs, hc.ren, hz, idxOf_found h hno hp]
    | false =>
      rw [hp] at hz
      simp [awp_skip, awp_seq, awp_block, awp_exit, awp_ret, awp_loop, awp_rangeF, awp_region, awp_cond, contS_normal, contS_exit, contS_ret, inB_normal, inB_exit, inB_ret, loopS_normal, loopS_exit, loopS_ret, doneS_normal, doneS_ret, regS_some, condS_bool, bindS_some, rrun_nil, rrun_cons, outD_some, stepG_some, rstep_eq, callOut_some, callOut_none, mutCall_none, movCall_none, frzCall_none, frzCall_some, alt_none, alt_some, regrun_false, regrun_true, noLd_dt, mkLd_dt, frzLd_dt, ldR_dt, dtGet, rdraw_eq, rrunD_nil, rrunD_cons, contD_eq, rstepD_eq, outDr_some, outC_zero, outC_succ, needs, chk, stR, opR, jk, jkL, meets, shf, nums, sets, Op.operands, Call.operands, noM_mk, callV_fn, aop_call, take_map_all, guardOk, aop, ev, putD, ofV, ofV1, Value.oneCell', asNat, abin, aun, pickAV, scal, frz, TypeDesc.aggB, AV.cells, lenAV, getAt, loadCell, loadCells, res, resL, intern, internL, putCells, ownR, ownRL, ownV, drops, flat, kill, killL, killN, killNL, clean, keep, refsL, refs, once, place, renL, ren, ctx, G, resOk, resVars, resVar, ownR, ownRL, pack, viewEs, bndOf, appX, appY, List.range, List.range.loop, ty2, ty3, ty4, ty5, ty9, ty12, ty21, ty22, ty27, ty33, ty36, ty40, ty43, ty47, ty51, ty52, ty55, ty59, ty71, ty72, ty75, ty86, ty96, ty97, ty106, ty111, ty112, ty113, ty120, ty121, ty124, ty133, eqT, cellInts, bld, partOk, nilAV, bytesOf, fracs, frac, int, h, List.replicate, hc.res, hc.refs, hc.ren, hz]
      refine ⟨⟨k + 1, h, fun j hj hjk => ?_⟩, ?_, by simp; omega⟩
      · by_cases e : j = k
        · subst e; exact hp
        · exact hno j hj (by omega)
      simp [sub, slotsLe, clean, keep, refsL, refs, once, place, renL, ren, List.replicate, int, bool, fracs, frac, hc.refs, hc.ren]
      exact wrapI (by omega) (by omega)
  · have hk' : k = xs.length := by omega
    subst hk'
    simp [awp_skip, awp_seq, awp_block, awp_exit, awp_ret, awp_loop, awp_rangeF, awp_region, awp_cond, contS_normal, contS_exit, contS_ret, inB_normal, inB_exit, inB_ret, loopS_normal, loopS_exit, loopS_ret, doneS_normal, doneS_ret, regS_some, condS_bool, bindS_some, rrun_nil, rrun_cons, outD_some, stepG_some, rstep_eq, callOut_some, callOut_none, mutCall_none, movCall_none, frzCall_none, frzCall_some, alt_none, alt_some, regrun_false, regrun_true, noLd_dt, mkLd_dt, frzLd_dt, ldR_dt, dtGet, rdraw_eq, rrunD_nil, rrunD_cons, contD_eq, rstepD_eq, outDr_some, outC_zero, outC_succ, needs, chk, stR, opR, jk, jkL, meets, shf, nums, sets, Op.operands, Call.operands, noM_mk, callV_fn, aop_call, take_map_all, guardOk, aop, ev, putD, ofV, ofV1, Value.oneCell', asNat, abin, aun, pickAV, scal, frz, TypeDesc.aggB, AV.cells, lenAV, getAt, loadCell, loadCells, res, resL, intern, internL, putCells, ownR, ownRL, ownV, drops, flat, kill, killL, killN, killNL, clean, keep, refsL, refs, once, place, renL, ren, ctx, G, resOk, resVars, resVar, ownR, ownRL, pack, viewEs, bndOf, appX, appY, List.range, List.range.loop, ty2, ty3, ty4, ty5, ty9, ty12, ty21, ty22, ty27, ty33, ty36, ty40, ty43, ty47, ty51, ty52, ty55, ty59, ty71, ty72, ty75, ty86, ty96, ty97, ty106, ty111, ty112, ty113, ty120, ty121, ty124, ty133, eqT, cellInts, bld, partOk, nilAV, bytesOf, fracs, frac, int, h, List.replicate, hc.res, hc.refs, hc.ren, idxOf_none hno]

set_option maxHeartbeats 1000000 in
theorem containsFracs {g : FuncId} {caps : List AV} (hc : Pure caps) (p : Int × Int → Bool) (nl : Bool) (xs : List (Int × Int)) (hg : ∀ x ∈ xs, CallOk Tryd.prog g (frac x :: caps) (.v (.bool (p x)))) :
    CallOk Tryd.prog 53 [fracs nl xs, .fn g caps] (bool (xs.any p)) := by
  have hG : FnsOk Tryd.prog [(71, only [.sl nl 2 (xs.map frac), .fn g caps] (.v (.int .i64 (idxOf p xs))))] := .cons (only_ok (indexFracs hc p nl xs hg)) .nil
  refine callOk_awp (ctx_ok eqOk hG) mixed (live := [true, true, false, false, true]) (dt := []) Tryd.func53 rfl (by kernel_rfl) (by kernel_rfl) fun w0 hlens => ?_
  simp [Tryd.f53, awp_skip, awp_seq, awp_block, awp_exit, awp_ret, awp_loop, awp_rangeF, awp_region, awp_cond, contS_normal, contS_exit, contS_ret, inB_normal, inB_exit, inB_ret, loopS_normal, loopS_exit, loopS_ret, doneS_normal, doneS_ret, regS_some, condS_bool, bindS_some, rrun_nil, rrun_cons, outD_some, stepG_some, rstep_eq, callOut_some, callOut_none, mutCall_none, movCall_none, frzCall_none, frzCall_some, alt_none, alt_some, regrun_false, regrun_true, noLd_dt, mkLd_dt, frzLd_dt, ldR_dt, dtGet, rdraw_eq, rrunD_nil, rrunD_cons, contD_eq, rstepD_eq, outDr_some, outC_zero, outC_succ, needs, chk, stR, opR, jk, jkL, meets, shf, nums, sets, Op.operands, Call.operands, noM_mk, callV_fn, aop_call, take_map_all, guardOk, aop, ev, putD, ofV, ofV1, Value.oneCell', asNat, abin, aun, pickAV, scal, frz, TypeDesc.aggB, AV.cells, lenAV, getAt, loadCell, loadCells, res, resL, intern, internL, putCells, ownR, ownRL, ownV, drops, flat, kill, killL, killN, killNL, clean, keep, refsL, refs, once, place, renL, ren, ctx, G, resOk, resVars, resVar, ownR, ownRL, pack, viewEs, bndOf, appX, appY, List.range, List.range.loop, ty2, ty3, ty4, ty5, ty9, ty12, ty21, ty22, ty27, ty33, ty36, ty40, ty43, ty47, ty51, ty52, ty55, ty59, ty71, ty72, ty75, ty86, ty96, ty97, ty106, ty111, ty112, ty113, ty120, ty121, ty124, ty133, eqT, cellInts, bld, partOk, nilAV, bytesOf, fracs, frac, bool, hc.res, hc.refs, hc.ren, ge_zero, only_at, idxOf_nonneg]

end Go.Proofs.YtpjejdebdhgngaaDoor.Ax
