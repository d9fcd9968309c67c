/-
  Contracts of allWithin and rectangle. No condition.
-/
import Derived.Test.YtehfjhenilkofaaF6
namespace Go.Proofs.Ytehfjhenilkofaa.Ax
open Go Go.RowKit
set_option linter.unusedSimpArgs false

def inR (lo hi x : Int) : Bool := decide (lo ≤ x) && decide (x ≤ hi)

theorem allWithin1 (x lo hi : Int) : CallOk Try.prog 143 [.v (.int .i64 x), .fp (.v (.int .i64 lo)) 0, .fp (.v (.int .i64 hi)) 0] (.v (.bool (!inR lo hi x))) := by
  have hG : FnsOk Try.prog [(65, mWithin)] := .cons within_ok .nil
  refine callOk_of_awp (ctx_ok eqOk hG) mixed (live := [true, true, true, false, true]) Try.func143 rfl (by kernel_rfl) (by kernel_rfl) fun w0 => ?_
  simp [Try.f143, awp_skip, awp_seq, awp_block, awp_exit, awp_ret, awp_loop, awp_region, awp_cond, contS_normal, contS_exit, contS_ret, inB_normal, inB_exit, inB_ret, loopS_normal, loopS_exit, loopS_ret, doneS_normal, doneS_ret, regS_some, condS_bool, bindS_some, rrun_nil, rrun_cons, outD_some, stepG_some, rstep_eq, callOut_some, callOut_none, mutCall_none, dC_false, dC_true, noM_mk, callV_fn, aop_call, take_map_all, guardOk, aop, ev, putD, ofV, ofV1, Value.oneCell', asNat, abin, aun, pickAV, scal, frz, TypeDesc.aggB, AV.cells, lenAV, getAt, loadCell, loadCells, res, resL, intern, internL, putCells, ownR, ownRL, drops, flat, kill, killL, killN, killNL, clean, keep, refsL, refs, once, place, renL, ren, ctx, G, resOk, resVars, resVar, ownR, ownRL, pack, viewEs, bndOf, appX, appY, List.range, List.range.loop, ty2, ty3, ty4, ty5, ty9, ty12, ty21, ty22, ty23, ty28, ty33, ty38, ty39, ty49, ty52, ty64, ty80, ty93, ty103, ty107, ty110, ty116, ty126, eqT, cellInts, bld, partOk, mWithin, inR]

noncomputable def mAllIn : List AV → Option AV := mk (fun _ => True) (fun (p : Bool × List Int × Int × Int) => [ints p.1 p.2.1, int p.2.2.1, int p.2.2.2]) (fun p => bool (p.2.1.all (inR p.2.2.1 p.2.2.2)))
theorem mAllIn_at (nl : Bool) (xs : List Int) (lo hi : Int) : mAllIn [.sl nl 1 (xs.map int), .v (.int .i64 lo), .v (.int .i64 hi)] = some (.v (.bool (xs.all (inR lo hi)))) :=
  mk_eq (enc := fun (p : Bool × List Int × Int × Int) => [ints p.1 p.2.1, int p.2.2.1, int p.2.2.2]) (x := (nl, xs, lo, hi)) (by rintro ⟨x, x', a, b⟩ ⟨y, y', c, d⟩ h; simp [ints, int_inj, map_int_inj] at h; simp [h]) trivial

theorem not_any_not {α : Type} {p : α → Bool} {xs : List α} : (!xs.any fun x => !p x) = xs.all p := by
  induction xs with
  | nil => rfl
  | cons x xs ih => simp only [List.any_cons, List.all_cons, Bool.not_or, Bool.not_not, ih]

theorem pure_fp {a : AV} {j : Nat} {l : List AV} (h : Pure l) : Pure (.fp a j :: l) := ⟨fun t => by simp [resL, res, h.res], by simp [refsL, refs, h.refs], fun f => by simp [renL, ren, h.ren]⟩
theorem pure_nil : Pure [] := ⟨fun t => by simp [resL], by simp [refsL], fun f => by simp [renL]⟩

theorem allWithin_ok : FnOk Try.prog 137 mAllIn := by
  refine mk_ok fun ⟨nl, xs, lo, hi⟩ _ => ?_
  have hc := containsInts (g := 143) (pure_fp (a := .v (.int .i64 lo)) (j := 0) (pure_fp (a := .v (.int .i64 hi)) (j := 0) pure_nil)) (fun x => !inR lo hi x) nl xs (fun x _ => allWithin1 x lo hi)
  have hG : FnsOk Try.prog [(142, only _ _)] := .cons (only_ok hc) .nil
  refine callOk_of_awp (ctx_ok eqOk hG) mixed (live := [true, true, true, false, true, true, true]) Try.func137 rfl (by kernel_rfl) (by kernel_rfl) fun w0 => ?_
  have ha := only_at (a := [ints nl xs, .fn 143 [.fp (.v (.int .i64 lo)) 0, .fp (.v (.int .i64 hi)) 0]]) (r := bool (xs.any fun x => !inR lo hi x))
  simp only [ints, bool] at ha
  simp [Try.f137, awp_skip, awp_seq, awp_block, awp_exit, awp_ret, awp_loop, awp_region, awp_cond, contS_normal, contS_exit, contS_ret, inB_normal, inB_exit, inB_ret, loopS_normal, loopS_exit, loopS_ret, doneS_normal, doneS_ret, regS_some, condS_bool, bindS_some, rrun_nil, rrun_cons, outD_some, stepG_some, rstep_eq, callOut_some, callOut_none, mutCall_none, dC_false, dC_true, noM_mk, callV_fn, aop_call, take_map_all, guardOk, aop, ev, putD, ofV, ofV1, Value.oneCell', asNat, abin, aun, pickAV, scal, frz, TypeDesc.aggB, AV.cells, lenAV, getAt, loadCell, loadCells, res, resL, intern, internL, putCells, ownR, ownRL, drops, flat, kill, killL, killN, killNL, clean, keep, refsL, refs, once, place, renL, ren, ctx, G, resOk, resVars, resVar, ownR, ownRL, pack, viewEs, bndOf, appX, appY, List.range, List.range.loop, ty2, ty3, ty4, ty5, ty9, ty12, ty21, ty22, ty23, ty28, ty33, ty38, ty39, ty49, ty52, ty64, ty80, ty93, ty103, ty107, ty110, ty116, ty126, eqT, cellInts, bld, partOk, ints, int, bool, ha, not_any_not]

/-- Is it a row of n numbers, each from 0 to most? -/
def rowIs (n : Nat) (most : Int) (r : Bool × List Int) : Bool := decide (r.2.length = n) && r.2.all (inR 0 most)

theorem rectangle1 (r : Bool × List Int) (nl : Bool) (r0 : Bool × List Int) (rs : List (Bool × List Int)) (most : Int) :
    CallOk Try.prog 136 [row r, .fp (intss nl (r0 :: rs)) 0, .fp (int most) 0] (.v (.bool (!rowIs r0.2.length most r))) := by
  have hG : FnsOk Try.prog [(137, mAllIn)] := .cons allWithin_ok .nil
  refine callOk_of_awp (ctx_ok eqOk hG) mixed (live := [true, true, true, false, true]) Try.func136 rfl (by kernel_rfl) (by kernel_rfl) fun w0 => ?_
  have hz := mAllIn_at r.1 r.2 0 most
  by_cases h : r.2.length = r0.2.length
  · simp [Try.f136, awp_skip, awp_seq, awp_block, awp_exit, awp_ret, awp_loop, awp_region, awp_cond, contS_normal, contS_exit, contS_ret, inB_normal, inB_exit, inB_ret, loopS_normal, loopS_exit, loopS_ret, doneS_normal, doneS_ret, regS_some, condS_bool, bindS_some, rrun_nil, rrun_cons, outD_some, stepG_some, rstep_eq, callOut_some, callOut_none, mutCall_none, dC_false, dC_true, noM_mk, callV_fn, aop_call, take_map_all, guardOk, aop, ev, putD, ofV, ofV1, Value.oneCell', asNat, abin, aun, pickAV, scal, frz, TypeDesc.aggB, AV.cells, lenAV, getAt, loadCell, loadCells, res, resL, intern, internL, putCells, ownR, ownRL, drops, flat, kill, killL, killN, killNL, clean, keep, refsL, refs, once, place, renL, ren, ctx, G, resOk, resVars, resVar, ownR, ownRL, pack, viewEs, bndOf, appX, appY, List.range, List.range.loop, ty2, ty3, ty4, ty5, ty9, ty12, ty21, ty22, ty23, ty28, ty33, ty38, ty39, ty49, ty52, ty64, ty80, ty93, ty103, ty107, ty110, ty116, ty126, eqT, cellInts, bld, partOk, row, intss, int, h, hz, rowIs]
  · have h' : ((r.2.length : Int) != r0.2.length) = true := by simp; omega
    simp [Try.f136, awp_skip, awp_seq, awp_block, awp_exit, awp_ret, awp_loop, awp_region, awp_cond, contS_normal, contS_exit, contS_ret, inB_normal, inB_exit, inB_ret, loopS_normal, loopS_exit, loopS_ret, doneS_normal, doneS_ret, regS_some, condS_bool, bindS_some, rrun_nil, rrun_cons, outD_some, stepG_some, rstep_eq, callOut_some, callOut_none, mutCall_none, dC_false, dC_true, noM_mk, callV_fn, aop_call, take_map_all, guardOk, aop, ev, putD, ofV, ofV1, Value.oneCell', asNat, abin, aun, pickAV, scal, frz, TypeDesc.aggB, AV.cells, lenAV, getAt, loadCell, loadCells, res, resL, intern, internL, putCells, ownR, ownRL, drops, flat, kill, killL, killN, killNL, clean, keep, refsL, refs, once, place, renL, ren, ctx, G, resOk, resVars, resVar, ownR, ownRL, pack, viewEs, bndOf, appX, appY, List.range, List.range.loop, ty2, ty3, ty4, ty5, ty9, ty12, ty21, ty22, ty23, ty28, ty33, ty38, ty39, ty49, ty52, ty64, ty80, ty93, ty103, ty107, ty110, ty116, ty126, eqT, cellInts, bld, partOk, row, intss, int, h, h', hz, rowIs]

def rectB (xss : List (Bool × List Int)) (high wide most : Int) : Bool := match xss with
  | [] => false
  | r0 :: _ => inR 1 high xss.length && inR 1 wide r0.2.length && xss.all (rowIs r0.2.length most)

noncomputable def mRect : List AV → Option AV := mk (fun _ => True) (fun (p : Bool × List (Bool × List Int) × Int × Int × Int) => [intss p.1 p.2.1, int p.2.2.1, int p.2.2.2.1, int p.2.2.2.2]) (fun p => bool (rectB p.2.1 p.2.2.1 p.2.2.2.1 p.2.2.2.2))
theorem mRect_at (nl : Bool) (xs : List (Bool × List Int)) (a b c : Int) : mRect [.sl nl 1 (xs.map row), .v (.int .i64 a), .v (.int .i64 b), .v (.int .i64 c)] = some (.v (.bool (rectB xs a b c))) :=
  mk_eq (enc := fun (p : Bool × List (Bool × List Int) × Int × Int × Int) => [intss p.1 p.2.1, int p.2.2.1, int p.2.2.2.1, int p.2.2.2.2]) (x := (nl, xs, a, b, c)) (by rintro ⟨x, x', a, b, c⟩ ⟨y, y', d, e, f⟩ h; simp [intss, int_inj, map_row_inj] at h; simp [h]) trivial

set_option maxHeartbeats 1000000 in
theorem rectangle_ok : FnOk Try.prog 119 mRect := by
  refine mk_ok fun ⟨nl, xss, high, wide, most⟩ _ => ?_
  cases xss with
  | nil =>
    have hG : FnsOk Try.prog [(65, mWithin)] := .cons within_ok .nil
    refine callOk_of_awp (ctx_ok eqOk hG) mixed (live := [true, true, true, true, true, false, false, true, true, false, false, false, false, false, false, false, false, false, false, false, false, false, true]) Try.func119 rfl (by kernel_rfl) (by kernel_rfl) fun w0 => ?_
    simp [Try.f119, awp_skip, awp_seq, awp_block, awp_exit, awp_ret, awp_loop, awp_region, awp_cond, contS_normal, contS_exit, contS_ret, inB_normal, inB_exit, inB_ret, loopS_normal, loopS_exit, loopS_ret, doneS_normal, doneS_ret, regS_some, condS_bool, bindS_some, rrun_nil, rrun_cons, outD_some, stepG_some, rstep_eq, callOut_some, callOut_none, mutCall_none, dC_false, dC_true, noM_mk, callV_fn, aop_call, take_map_all, guardOk, aop, ev, putD, ofV, ofV1, Value.oneCell', asNat, abin, aun, pickAV, scal, frz, TypeDesc.aggB, AV.cells, lenAV, getAt, loadCell, loadCells, res, resL, intern, internL, putCells, ownR, ownRL, drops, flat, kill, killL, killN, killNL, clean, keep, refsL, refs, once, place, renL, ren, ctx, G, resOk, resVars, resVar, ownR, ownRL, pack, viewEs, bndOf, appX, appY, List.range, List.range.loop, ty2, ty3, ty4, ty5, ty9, ty12, ty21, ty22, ty23, ty28, ty33, ty38, ty39, ty49, ty52, ty64, ty80, ty93, ty103, ty107, ty110, ty116, ty126, eqT, cellInts, bld, partOk, intss, int, bool, mWithin, rectB]
  | cons r0 rs =>
    obtain ⟨m, hm, ha⟩ := as_model (containsIntss (g := 136) (pure_fp (a := intss nl (r0 :: rs)) (j := 0) (pure_fp (a := int most) (j := 0) pure_nil)) (fun r => !rowIs r0.2.length most r) nl (r0 :: rs) (fun x _ => rectangle1 x nl r0 rs most))
    have hG : FnsOk Try.prog [(65, mWithin), (133, m)] := .cons within_ok (.cons hm .nil)
    refine callOk_of_awp (ctx_ok eqOk hG) mixed (live := [true, true, true, true, true, false, false, true, true, false, false, false, false, false, false, false, false, false, false, false, false, false, true]) Try.func119 rfl (by kernel_rfl) (by kernel_rfl) fun w0 => ?_
    have hnn := not_any_not (p := rowIs r0.2.length most) (xs := r0 :: rs)
    generalize hb : ((r0 :: rs).any fun r => !rowIs r0.2.length most r) = bb at ha hnn
    simp only [intss, int, bool, List.map_cons, row] at ha
    by_cases h1 : inR 1 high (rs.length + 1) = true
    · by_cases h2 : inR 1 wide r0.2.length = true
      · have h1' := h1
        have h2' := h2
        simp only [inR, Bool.and_eq_true, decide_eq_true_eq] at h1' h2'
        have hr : rectB (r0 :: rs) high wide most = (r0 :: rs).all (rowIs r0.2.length most) := by simp [rectB, h1, h2]
        rw [hr, ← hnn]
        simp [Try.f119, awp_skip, awp_seq, awp_block, awp_exit, awp_ret, awp_loop, awp_region, awp_cond, contS_normal, contS_exit, contS_ret, inB_normal, inB_exit, inB_ret, loopS_normal, loopS_exit, loopS_ret, doneS_normal, doneS_ret, regS_some, condS_bool, bindS_some, rrun_nil, rrun_cons, outD_some, stepG_some, rstep_eq, callOut_some, callOut_none, mutCall_none, dC_false, dC_true, noM_mk, callV_fn, aop_call, take_map_all, guardOk, aop, ev, putD, ofV, ofV1, Value.oneCell', asNat, abin, aun, pickAV, scal, frz, TypeDesc.aggB, AV.cells, lenAV, getAt, loadCell, loadCells, res, resL, intern, internL, putCells, ownR, ownRL, drops, flat, kill, killL, killN, killNL, clean, keep, refsL, refs, once, place, renL, ren, ctx, G, resOk, resVars, resVar, ownR, ownRL, pack, viewEs, bndOf, appX, appY, List.range, List.range.loop, ty2, ty3, ty4, ty5, ty9, ty12, ty21, ty22, ty23, ty28, ty33, ty38, ty39, ty49, ty52, ty64, ty80, ty93, ty103, ty107, ty110, ty116, ty126, eqT, cellInts, bld, partOk, intss, row, int, bool, mWithin, h1', h2', ha]
      · have h1' := h1
        simp only [inR, Bool.and_eq_true, decide_eq_true_eq] at h1'
        have h2' : (decide (1 ≤ (r0.2.length : Int)) && decide ((r0.2.length : Int) ≤ wide)) = false := by simpa [inR] using h2
        simp [Try.f119, awp_skip, awp_seq, awp_block, awp_exit, awp_ret, awp_loop, awp_region, awp_cond, contS_normal, contS_exit, contS_ret, inB_normal, inB_exit, inB_ret, loopS_normal, loopS_exit, loopS_ret, doneS_normal, doneS_ret, regS_some, condS_bool, bindS_some, rrun_nil, rrun_cons, outD_some, stepG_some, rstep_eq, callOut_some, callOut_none, mutCall_none, dC_false, dC_true, noM_mk, callV_fn, aop_call, take_map_all, guardOk, aop, ev, putD, ofV, ofV1, Value.oneCell', asNat, abin, aun, pickAV, scal, frz, TypeDesc.aggB, AV.cells, lenAV, getAt, loadCell, loadCells, res, resL, intern, internL, putCells, ownR, ownRL, drops, flat, kill, killL, killN, killNL, clean, keep, refsL, refs, once, place, renL, ren, ctx, G, resOk, resVars, resVar, ownR, ownRL, pack, viewEs, bndOf, appX, appY, List.range, List.range.loop, ty2, ty3, ty4, ty5, ty9, ty12, ty21, ty22, ty23, ty28, ty33, ty38, ty39, ty49, ty52, ty64, ty80, ty93, ty103, ty107, ty110, ty116, ty126, eqT, cellInts, bld, partOk, intss, row, int, bool, mWithin, h1', h2', ha, rectB, h2]
    · have h1' : (decide (1 ≤ (rs.length : Int) + 1) && decide ((rs.length : Int) + 1 ≤ high)) = false := by simpa [inR] using h1
      simp [Try.f119, awp_skip, awp_seq, awp_block, awp_exit, awp_ret, awp_loop, awp_region, awp_cond, contS_normal, contS_exit, contS_ret, inB_normal, inB_exit, inB_ret, loopS_normal, loopS_exit, loopS_ret, doneS_normal, doneS_ret, regS_some, condS_bool, bindS_some, rrun_nil, rrun_cons, outD_some, stepG_some, rstep_eq, callOut_some, callOut_none, mutCall_none, dC_false, dC_true, noM_mk, callV_fn, aop_call, take_map_all, guardOk, aop, ev, putD, ofV, ofV1, Value.oneCell', asNat, abin, aun, pickAV, scal, frz, TypeDesc.aggB, AV.cells, lenAV, getAt, loadCell, loadCells, res, resL, intern, internL, putCells, ownR, ownRL, drops, flat, kill, killL, killN, killNL, clean, keep, refsL, refs, once, place, renL, ren, ctx, G, resOk, resVars, resVar, ownR, ownRL, pack, viewEs, bndOf, appX, appY, List.range, List.range.loop, ty2, ty3, ty4, ty5, ty9, ty12, ty21, ty22, ty23, ty28, ty33, ty38, ty39, ty49, ty52, ty64, ty80, ty93, ty103, ty107, ty110, ty116, ty126, eqT, cellInts, bld, partOk, intss, row, int, bool, mWithin, h1', ha, rectB, h1]

end Go.Proofs.Ytehfjhenilkofaa.Ax
