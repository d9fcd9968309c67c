/-
  Contracts of BidsOk and CakeOk. No condition.
-/
import Derived.Test.YtbiefpodcenpoaaCB4
import Derived.Test.YtbiefpodcenpoaaCK3
namespace Go.Proofs.Ytbiefpodcenpoaa.Ax
open Go Go.RowKit
set_option linter.unusedSimpArgs false

noncomputable def mGrid (a b c : Int) : List AV → Option AV := mk (fun _ => True) (fun (p : Bool × List (Bool × List Int)) => [intss p.1 p.2]) (fun p => bool (rectB p.2 a b c))
theorem mGrid_at {a b c : Int} (nl : Bool) (xs : List (Bool × List Int)) : mGrid a b c [.sl nl 1 (xs.map row)] = some (.v (.bool (rectB xs a b c))) :=
  mk_eq (enc := fun (p : Bool × List (Bool × List Int)) => [intss p.1 p.2]) (x := (nl, xs)) (by rintro ⟨x, x'⟩ ⟨y, y'⟩ h; simp [intss, map_row_inj] at h; simp [h]) trivial

theorem rectB_eq {xss : List (Bool × List Int)} {a b c : Int} (h : 0 < xss.length) : rectB xss a b c = (inR 1 a xss.length && inR 1 b xss[0].2.length && xss.all (rowIs xss[0].2.length c)) := by
  cases xss with
  | nil => simp at h
  | cons x xs => rfl
theorem rectB_nil {xss : List (Bool × List Int)} {a b c : Int} (h : ¬ 0 < xss.length) : rectB xss a b c = false := by
  cases xss with
  | nil => rfl
  | cons x xs => simp at h

theorem all_of {α : Type} {p : α → Bool} {xs : List α} (h : ∀ j (hj : j < xs.length), j < xs.length → p xs[j] = true) : xs.all p = true := by
  rw [List.all_eq_true]
  intro x hx
  obtain ⟨i, hi, rfl⟩ := List.getElem_of_mem hx
  exact h i hi hi
theorem all_not {α : Type} {p : α → Bool} {xs : List α} {k : Nat} (hk : k < xs.length) (h : p xs[k] = false) : xs.all p = false := by
  rw [List.all_eq_false]
  exact ⟨xs[k], List.getElem_mem hk, by simp [h]⟩

theorem implBidsOk_ok : FnOk Try.prog 65 (mGrid 4 4 1000) := by
  refine mk_ok fun ⟨nl, xss⟩ _ => ?_
  have hG : FnsOk Try.prog [(113, mRect)] := .cons rectangle_ok .nil
  refine callOk_of_awp (ctx_ok eqOk hG) mixed (live := [true, false, true]) (dt := []) Try.func65 rfl (by kernel_rfl) (by kernel_rfl) fun w0 => ?_
  simp [Try.f65, awp_skip, awp_seq, awp_block, awp_exit, awp_ret, awp_loop, awp_region, awp_cond, contS_normal, contS_exit, contS_ret, inB_normal, inB_exit, inB_ret, loopS_normal, loopS_exit, loopS_ret, doneS_normal, doneS_ret, regS_some, condS_bool, bindS_some, rrun_nil, rrun_cons, outD_some, stepG_some, rstep_eq, callOut_some, callOut_none, mutCall_none, movCall_none, frzCall_none, frzCall_some, alt_none, alt_some, regrun_false, regrun_true, noLd_dt, mkLd_dt, dtGet, rdraw_eq, rrunD_nil, rrunD_cons, contD_eq, rstepD_eq, outDr_some, outC_zero, outC_succ, needs, chk, stR, opR, jk, jkL, meets, shf, nums, sets, Op.operands, Call.operands, noM_mk, callV_fn, aop_call, take_map_all, guardOk, aop, ev, putD, ofV, ofV1, Value.oneCell', asNat, abin, aun, pickAV, scal, frz, TypeDesc.aggB, AV.cells, lenAV, getAt, loadCell, loadCells, res, resL, intern, internL, putCells, ownR, ownRL, ownV, drops, flat, kill, killL, killN, killNL, clean, keep, refsL, refs, once, place, renL, ren, ctx, G, resOk, resVars, resVar, ownR, ownRL, pack, viewEs, bndOf, appX, appY, List.range, List.range.loop, ty2, ty3, ty4, ty5, ty9, ty12, ty21, ty22, ty23, ty28, ty33, ty44, ty50, ty61, ty72, ty73, ty83, ty89, ty106, ty110, ty113, ty119, ty129, eqT, cellInts, bld, partOk, nilAV, bytesOf, intss, bool, mRect_at nl xss _ _ _]

theorem implCakeOk_ok : FnOk Try.prog 77 (mGrid 3 10 100) := by
  refine mk_ok fun ⟨nl, xss⟩ _ => ?_
  have hG : FnsOk Try.prog [(113, mRect)] := .cons rectangle_ok .nil
  refine callOk_of_awp (ctx_ok eqOk hG) mixed (live := [true, false, true]) (dt := []) Try.func77 rfl (by kernel_rfl) (by kernel_rfl) fun w0 => ?_
  simp [Try.f77, awp_skip, awp_seq, awp_block, awp_exit, awp_ret, awp_loop, awp_region, awp_cond, contS_normal, contS_exit, contS_ret, inB_normal, inB_exit, inB_ret, loopS_normal, loopS_exit, loopS_ret, doneS_normal, doneS_ret, regS_some, condS_bool, bindS_some, rrun_nil, rrun_cons, outD_some, stepG_some, rstep_eq, callOut_some, callOut_none, mutCall_none, movCall_none, frzCall_none, frzCall_some, alt_none, alt_some, regrun_false, regrun_true, noLd_dt, mkLd_dt, dtGet, rdraw_eq, rrunD_nil, rrunD_cons, contD_eq, rstepD_eq, outDr_some, outC_zero, outC_succ, needs, chk, stR, opR, jk, jkL, meets, shf, nums, sets, Op.operands, Call.operands, noM_mk, callV_fn, aop_call, take_map_all, guardOk, aop, ev, putD, ofV, ofV1, Value.oneCell', asNat, abin, aun, pickAV, scal, frz, TypeDesc.aggB, AV.cells, lenAV, getAt, loadCell, loadCells, res, resL, intern, internL, putCells, ownR, ownRL, ownV, drops, flat, kill, killL, killN, killNL, clean, keep, refsL, refs, once, place, renL, ren, ctx, G, resOk, resVars, resVar, ownR, ownRL, pack, viewEs, bndOf, appX, appY, List.range, List.range.loop, ty2, ty3, ty4, ty5, ty9, ty12, ty21, ty22, ty23, ty28, ty33, ty44, ty50, ty61, ty72, ty73, ty83, ty89, ty106, ty110, ty113, ty119, ty129, eqT, cellInts, bld, partOk, nilAV, bytesOf, intss, bool, mRect_at nl xss _ _ _]

theorem need_small {xss : List (Bool × List Int)} (h : need xss ≤ 1048576) : small xss := by
  simp only [need] at h
  refine ⟨by omega, fun x hx => ?_⟩
  obtain ⟨i, hi, rfl⟩ := List.getElem_of_mem hx
  have h1 := rowSum_succ hi
  have h2 := rowSum_mono (xss := xss) (show i + 1 ≤ xss.length from hi)
  omega
theorem own_small {xss : List (Bool × List Int)} (h : small xss) : small (own xss) := by
  refine ⟨by rw [own_len]; exact h.1, fun x hx => ?_⟩
  simp only [own, List.mem_map] at hx
  obtain ⟨y, hy, rfl⟩ := hx
  exact h.2 y hy

end Go.Proofs.Ytbiefpodcenpoaa.Ax

/-
  Contracts of the reference's BidsOk and CakeOk. No condition.
-/
namespace Go.Proofs.Ytbiefpodcenpoaa.Ax
open Go Go.RowKit
set_option linter.unusedSimpArgs false

set_option maxHeartbeats 2000000 in
theorem specBidsOk_ok : FnOk Try.prog 63 (mGrid 4 4 1000) := by
  refine mk_ok fun ⟨nl, xss⟩ _ => ?_
  have hG : FnsOk Try.prog [(69, mWithin)] := .cons l01In_ok .nil
  refine callOk_awp (ctx_ok eqOk hG) mixed (live := [true, false, true, false, true, false, true, false, false, false, false, false, false, false, false, false, false, false, true, true, true, true, true, false, false, false, false, false, false, false, false, true, true, true, true, true, false, false, false, false, true]) (dt := []) Try.func63 rfl (by kernel_rfl) (by kernel_rfl) fun w0 hlens => ?_
  have hpr : ∀ x ∈ xss, x.2.length ≤ 9223372036854775807 ∧ (x.1 = true → x.2 = []) := (lens_intss.1 hlens.1).2
  have hp : xss.length ≤ 9223372036854775807 := (lens_intss.1 hlens.1).1.1
  by_cases h1 : inR 1 4 xss.length = true
  rotate_left
  · have h1' : (decide (1 ≤ (xss.length : Int)) && decide ((xss.length : Int) ≤ 4)) = false := by simpa [inR] using h1
    have hr : rectB xss 4 4 1000 = false := by
      by_cases h0 : 0 < xss.length
      · rw [rectB_eq h0]; simp [h1]
      · exact rectB_nil h0
    simp [Try.f63, awp_skip, awp_seq, awp_block, awp_exit, awp_ret, awp_loop, awp_region, awp_cond, contS_normal, contS_exit, contS_ret, inB_normal, inB_exit, inB_ret, loopS_normal, loopS_exit, loopS_ret, doneS_normal, doneS_ret, regS_some, condS_bool, bindS_some, rrun_nil, rrun_cons, outD_some, stepG_some, rstep_eq, callOut_some, callOut_none, mutCall_none, movCall_none, frzCall_none, frzCall_some, alt_none, alt_some, regrun_false, regrun_true, noLd_dt, mkLd_dt, dtGet, rdraw_eq, rrunD_nil, rrunD_cons, contD_eq, rstepD_eq, outDr_some, outC_zero, outC_succ, needs, chk, stR, opR, jk, jkL, meets, shf, nums, sets, Op.operands, Call.operands, noM_mk, callV_fn, aop_call, take_map_all, guardOk, aop, ev, putD, ofV, ofV1, Value.oneCell', asNat, abin, aun, pickAV, scal, frz, TypeDesc.aggB, AV.cells, lenAV, getAt, loadCell, loadCells, res, resL, intern, internL, putCells, ownR, ownRL, ownV, drops, flat, kill, killL, killN, killNL, clean, keep, refsL, refs, once, place, renL, ren, ctx, G, resOk, resVars, resVar, ownR, ownRL, pack, viewEs, bndOf, appX, appY, List.range, List.range.loop, ty2, ty3, ty4, ty5, ty9, ty12, ty21, ty22, ty23, ty28, ty33, ty44, ty50, ty61, ty72, ty73, ty83, ty89, ty106, ty110, ty113, ty119, ty129, eqT, cellInts, bld, partOk, nilAV, bytesOf, intss, int, bool, mWithin, h1', hr]
  have h0 : 0 < xss.length := by simp [inR] at h1; omega
  have hre := rectB_eq (a := 4) (b := 4) (c := 1000) h0
  have h1' : (1 : Int) ≤ (xss.length : Int) ∧ (xss.length : Int) ≤ 4 := by simpa [inR] using h1
  by_cases h2 : inR 1 4 xss[0].2.length = true
  rotate_left
  · have h2' : (decide (1 ≤ (xss[0].2.length : Int)) && decide ((xss[0].2.length : Int) ≤ 4)) = false := by simpa [inR] using h2
    simp [h1, h2] at hre
    simp [Try.f63, awp_skip, awp_seq, awp_block, awp_exit, awp_ret, awp_loop, awp_region, awp_cond, contS_normal, contS_exit, contS_ret, inB_normal, inB_exit, inB_ret, loopS_normal, loopS_exit, loopS_ret, doneS_normal, doneS_ret, regS_some, condS_bool, bindS_some, rrun_nil, rrun_cons, outD_some, stepG_some, rstep_eq, callOut_some, callOut_none, mutCall_none, movCall_none, frzCall_none, frzCall_some, alt_none, alt_some, regrun_false, regrun_true, noLd_dt, mkLd_dt, dtGet, rdraw_eq, rrunD_nil, rrunD_cons, contD_eq, rstepD_eq, outDr_some, outC_zero, outC_succ, needs, chk, stR, opR, jk, jkL, meets, shf, nums, sets, Op.operands, Call.operands, noM_mk, callV_fn, aop_call, take_map_all, guardOk, aop, ev, putD, ofV, ofV1, Value.oneCell', asNat, abin, aun, pickAV, scal, frz, TypeDesc.aggB, AV.cells, lenAV, getAt, loadCell, loadCells, res, resL, intern, internL, putCells, ownR, ownRL, ownV, drops, flat, kill, killL, killN, killNL, clean, keep, refsL, refs, once, place, renL, ren, ctx, G, resOk, resVars, resVar, ownR, ownRL, pack, viewEs, bndOf, appX, appY, List.range, List.range.loop, ty2, ty3, ty4, ty5, ty9, ty12, ty21, ty22, ty23, ty28, ty33, ty44, ty50, ty61, ty72, ty73, ty83, ty89, ty106, ty110, ty113, ty119, ty129, eqT, cellInts, bld, partOk, nilAV, bytesOf, intss, row, int, bool, mWithin, h1', h2', hre, h0]
    intro a b
    exfalso
    simp [inR] at h2
    omega
  have h2' : (1 : Int) ≤ (xss[0].2.length : Int) ∧ (xss[0].2.length : Int) ≤ 4 := by simpa [inR] using h2
  rw [h1, h2] at hre
  simp only [Bool.true_and] at hre
  generalize hrb : rectB xss 4 4 1000 = rb at hre ⊢
  simp [Try.f63, awp_skip, awp_seq, awp_block, awp_exit, awp_ret, awp_loop, awp_region, awp_cond, contS_normal, contS_exit, contS_ret, inB_normal, inB_exit, inB_ret, loopS_normal, loopS_exit, loopS_ret, doneS_normal, doneS_ret, regS_some, condS_bool, bindS_some, rrun_nil, rrun_cons, outD_some, stepG_some, rstep_eq, callOut_some, callOut_none, mutCall_none, movCall_none, frzCall_none, frzCall_some, alt_none, alt_some, regrun_false, regrun_true, noLd_dt, mkLd_dt, dtGet, rdraw_eq, rrunD_nil, rrunD_cons, contD_eq, rstepD_eq, outDr_some, outC_zero, outC_succ, needs, chk, stR, opR, jk, jkL, meets, shf, nums, sets, Op.operands, Call.operands, noM_mk, callV_fn, aop_call, take_map_all, guardOk, aop, ev, putD, ofV, ofV1, Value.oneCell', asNat, abin, aun, pickAV, scal, frz, TypeDesc.aggB, AV.cells, lenAV, getAt, loadCell, loadCells, res, resL, intern, internL, putCells, ownR, ownRL, ownV, drops, flat, kill, killL, killN, killNL, clean, keep, refsL, refs, once, place, renL, ren, ctx, G, resOk, resVars, resVar, ownR, ownRL, pack, viewEs, bndOf, appX, appY, List.range, List.range.loop, ty2, ty3, ty4, ty5, ty9, ty12, ty21, ty22, ty23, ty28, ty33, ty44, ty50, ty61, ty72, ty73, ty83, ty89, ty106, ty110, ty113, ty119, ty129, eqT, cellInts, bld, partOk, nilAV, bytesOf, intss, row, int, bool, mWithin, h1', h2', h0]
  refine awp_loop_of (ctx_ok eqOk hG) mixed (live := [true, false, true, false, true, false, true, false, false, false, false, false, false, false, false, false, false, false, true, true, true, true, true, false, false, false, false, false, false, false, false, true, true, true, true, true, false, false, false, false, true]) [true, false, false, false, false, false, false, false, false, false, false, false, false, false, false, false, false, false, false, true, true, true] (α := {k : Nat // k ≤ xss.length ∧ ∀ j (hj : j < xss.length), j < k → rowIs xss[0].2.length 1000 xss[j] = true})
    (fun k => ⟨[intss nl xss, .junk, .junk, .junk, .junk, .junk, .junk, .junk, .junk, .junk, .junk, .junk, .junk, .junk, .junk, .junk, .junk, .junk, .junk, intss nl xss, int xss.length, int k.1, .junk, .junk, .junk, .junk, .junk, .junk, .junk, .junk, .junk, .junk, .junk, .junk, .junk, .junk, .junk, .junk, .junk, .junk, .junk, .junk, .junk], []⟩) (fun k => xss.length - k.1) ⟨0, by omega, by omega⟩
    (by simp [sub, slotsLe, clean, keep, refsL, refs, once, place, renL, ren, List.replicate, int, bool, intss]) ?_
  rintro ⟨k, hk, hno⟩
  by_cases h : k < xss.length
  · by_cases hl : xss[k].2.length = xss[0].2.length
    · simp [awp_skip, awp_seq, awp_block, awp_exit, awp_ret, awp_loop, awp_region, awp_cond, contS_normal, contS_exit, contS_ret, inB_normal, inB_exit, inB_ret, loopS_normal, loopS_exit, loopS_ret, doneS_normal, doneS_ret, regS_some, condS_bool, bindS_some, rrun_nil, rrun_cons, outD_some, stepG_some, rstep_eq, callOut_some, callOut_none, mutCall_none, movCall_none, frzCall_none, frzCall_some, alt_none, alt_some, regrun_false, regrun_true, noLd_dt, mkLd_dt, dtGet, rdraw_eq, rrunD_nil, rrunD_cons, contD_eq, rstepD_eq, outDr_some, outC_zero, outC_succ, needs, chk, stR, opR, jk, jkL, meets, shf, nums, sets, Op.operands, Call.operands, noM_mk, callV_fn, aop_call, take_map_all, guardOk, aop, ev, putD, ofV, ofV1, Value.oneCell', asNat, abin, aun, pickAV, scal, frz, TypeDesc.aggB, AV.cells, lenAV, getAt, loadCell, loadCells, res, resL, intern, internL, putCells, ownR, ownRL, ownV, drops, flat, kill, killL, killN, killNL, clean, keep, refsL, refs, once, place, renL, ren, ctx, G, resOk, resVars, resVar, ownR, ownRL, pack, viewEs, bndOf, appX, appY, List.range, List.range.loop, ty2, ty3, ty4, ty5, ty9, ty12, ty21, ty22, ty23, ty28, ty33, ty44, ty50, ty61, ty72, ty73, ty83, ty89, ty106, ty110, ty113, ty119, ty129, eqT, cellInts, bld, partOk, nilAV, bytesOf, intss, row, int, bool, mWithin, h, h0, hl]
      refine awp_loop_of (ctx_ok eqOk hG) mixed (live := [true, false, true, false, true, false, true, false, false, false, false, false, false, false, false, false, false, false, true, true, true, true, true, false, false, false, false, false, false, false, false, true, true, true, true, true, false, false, false, false, true]) [true, false, false, false, false, false, false, false, false, false, false, false, false, false, false, false, false, false, false, true, true, true, false, false, false, false, false, false, false, false, false, false, true, true, true] (α := {m : Nat // m ≤ xss[k].2.length ∧ ∀ j (hj : j < xss[k].2.length), j < m → inR 0 1000 xss[k].2[j] = true})
        (fun m => ⟨[intss nl xss, .junk, .junk, .junk, .junk, .junk, .junk, .junk, .junk, .junk, .junk, .junk, .junk, .junk, .junk, .junk, .junk, .junk, .junk, intss nl xss, int xss.length, int k, .junk, .junk, .junk, .junk, .junk, .junk, .junk, .junk, .junk, .junk, row xss[k], int xss[k].2.length, int m.1, .junk, .junk, .junk, .junk, .junk, .junk, .junk, .junk], []⟩) (fun m => xss[k].2.length - m.1) ⟨0, by omega, by omega⟩
        (by simp [sub, slotsLe, clean, keep, refsL, refs, once, place, renL, ren, List.replicate, int, bool, intss, row, hl]) ?_
      rintro ⟨m, hm, hmo⟩
      by_cases hx : m < xss[k].2.length
      · cases hv : inR 0 1000 xss[k].2[m] with
        | true =>
          have hv' : (0 : Int) ≤ xss[k].2[m] ∧ xss[k].2[m] ≤ 1000 := by simpa [inR] using hv
          simp [awp_skip, awp_seq, awp_block, awp_exit, awp_ret, awp_loop, awp_region, awp_cond, contS_normal, contS_exit, contS_ret, inB_normal, inB_exit, inB_ret, loopS_normal, loopS_exit, loopS_ret, doneS_normal, doneS_ret, regS_some, condS_bool, bindS_some, rrun_nil, rrun_cons, outD_some, stepG_some, rstep_eq, callOut_some, callOut_none, mutCall_none, movCall_none, frzCall_none, frzCall_some, alt_none, alt_some, regrun_false, regrun_true, noLd_dt, mkLd_dt, dtGet, rdraw_eq, rrunD_nil, rrunD_cons, contD_eq, rstepD_eq, outDr_some, outC_zero, outC_succ, needs, chk, stR, opR, jk, jkL, meets, shf, nums, sets, Op.operands, Call.operands, noM_mk, callV_fn, aop_call, take_map_all, guardOk, aop, ev, putD, ofV, ofV1, Value.oneCell', asNat, abin, aun, pickAV, scal, frz, TypeDesc.aggB, AV.cells, lenAV, getAt, loadCell, loadCells, res, resL, intern, internL, putCells, ownR, ownRL, ownV, drops, flat, kill, killL, killN, killNL, clean, keep, refsL, refs, once, place, renL, ren, ctx, G, resOk, resVars, resVar, ownR, ownRL, pack, viewEs, bndOf, appX, appY, List.range, List.range.loop, ty2, ty3, ty4, ty5, ty9, ty12, ty21, ty22, ty23, ty28, ty33, ty44, ty50, ty61, ty72, ty73, ty83, ty89, ty106, ty110, ty113, ty119, ty129, eqT, cellInts, bld, partOk, nilAV, bytesOf, intss, row, int, bool, mWithin, h, h0, hx, hv']
          refine ⟨⟨m + 1, hx, fun j hj hjm => ?_⟩, ?_, by simp; omega⟩
          · by_cases e : j = m
            · subst e; exact hv
            · exact hmo j hj (by omega)
          simp [sub, slotsLe, clean, keep, refsL, refs, once, place, renL, ren, List.replicate, int, bool, intss, row]
          exact wrapI (by omega) (by have := hpr xss[k] (List.getElem_mem _); omega)
        | false =>
          have hv' : (decide ((0 : Int) ≤ xss[k].2[m]) && decide (xss[k].2[m] ≤ 1000)) = false := by simpa [inR] using hv
          have hf : rowIs xss[0].2.length 1000 xss[k] = false := by simp only [rowIs, Bool.and_eq_false_iff]; exact .inr (all_not hx hv)
          rw [all_not h hf] at hre
          simp [awp_skip, awp_seq, awp_block, awp_exit, awp_ret, awp_loop, awp_region, awp_cond, contS_normal, contS_exit, contS_ret, inB_normal, inB_exit, inB_ret, loopS_normal, loopS_exit, loopS_ret, doneS_normal, doneS_ret, regS_some, condS_bool, bindS_some, rrun_nil, rrun_cons, outD_some, stepG_some, rstep_eq, callOut_some, callOut_none, mutCall_none, movCall_none, frzCall_none, frzCall_some, alt_none, alt_some, regrun_false, regrun_true, noLd_dt, mkLd_dt, dtGet, rdraw_eq, rrunD_nil, rrunD_cons, contD_eq, rstepD_eq, outDr_some, outC_zero, outC_succ, needs, chk, stR, opR, jk, jkL, meets, shf, nums, sets, Op.operands, Call.operands, noM_mk, callV_fn, aop_call, take_map_all, guardOk, aop, ev, putD, ofV, ofV1, Value.oneCell', asNat, abin, aun, pickAV, scal, frz, TypeDesc.aggB, AV.cells, lenAV, getAt, loadCell, loadCells, res, resL, intern, internL, putCells, ownR, ownRL, ownV, drops, flat, kill, killL, killN, killNL, clean, keep, refsL, refs, once, place, renL, ren, ctx, G, resOk, resVars, resVar, ownR, ownRL, pack, viewEs, bndOf, appX, appY, List.range, List.range.loop, ty2, ty3, ty4, ty5, ty9, ty12, ty21, ty22, ty23, ty28, ty33, ty44, ty50, ty61, ty72, ty73, ty83, ty89, ty106, ty110, ty113, ty119, ty129, eqT, cellInts, bld, partOk, nilAV, bytesOf, intss, row, int, bool, mWithin, h, h0, hx, hv', hre]
      · have hm' : m = xss[k].2.length := by omega
        subst hm'
        simp [awp_skip, awp_seq, awp_block, awp_exit, awp_ret, awp_loop, awp_region, awp_cond, contS_normal, contS_exit, contS_ret, inB_normal, inB_exit, inB_ret, loopS_normal, loopS_exit, loopS_ret, doneS_normal, doneS_ret, regS_some, condS_bool, bindS_some, rrun_nil, rrun_cons, outD_some, stepG_some, rstep_eq, callOut_some, callOut_none, mutCall_none, movCall_none, frzCall_none, frzCall_some, alt_none, alt_some, regrun_false, regrun_true, noLd_dt, mkLd_dt, dtGet, rdraw_eq, rrunD_nil, rrunD_cons, contD_eq, rstepD_eq, outDr_some, outC_zero, outC_succ, needs, chk, stR, opR, jk, jkL, meets, shf, nums, sets, Op.operands, Call.operands, noM_mk, callV_fn, aop_call, take_map_all, guardOk, aop, ev, putD, ofV, ofV1, Value.oneCell', asNat, abin, aun, pickAV, scal, frz, TypeDesc.aggB, AV.cells, lenAV, getAt, loadCell, loadCells, res, resL, intern, internL, putCells, ownR, ownRL, ownV, drops, flat, kill, killL, killN, killNL, clean, keep, refsL, refs, once, place, renL, ren, ctx, G, resOk, resVars, resVar, ownR, ownRL, pack, viewEs, bndOf, appX, appY, List.range, List.range.loop, ty2, ty3, ty4, ty5, ty9, ty12, ty21, ty22, ty23, ty28, ty33, ty44, ty50, ty61, ty72, ty73, ty83, ty89, ty106, ty110, ty113, ty119, ty129, eqT, cellInts, bld, partOk, nilAV, bytesOf, intss, row, int, bool, mWithin, h, h0]
        refine ⟨⟨k + 1, h, fun j hj hjk => ?_⟩, ?_, by simp; omega⟩
        · by_cases e : j = k
          · subst e; simp only [rowIs, Bool.and_eq_true, decide_eq_true_eq]; exact ⟨hl, all_of hmo⟩
          · exact hno j hj (by omega)
        simp [sub, slotsLe, clean, keep, refsL, refs, once, place, renL, ren, List.replicate, int, bool, intss]
        exact wrapI (by omega) (by omega)
    · have hl' : ((xss[k].2.length : Int) != xss[0].2.length) = true := by simp; omega
      have hf : rowIs xss[0].2.length 1000 xss[k] = false := by simp [rowIs, hl]
      rw [all_not h hf] at hre
      simp [awp_skip, awp_seq, awp_block, awp_exit, awp_ret, awp_loop, awp_region, awp_cond, contS_normal, contS_exit, contS_ret, inB_normal, inB_exit, inB_ret, loopS_normal, loopS_exit, loopS_ret, doneS_normal, doneS_ret, regS_some, condS_bool, bindS_some, rrun_nil, rrun_cons, outD_some, stepG_some, rstep_eq, callOut_some, callOut_none, mutCall_none, movCall_none, frzCall_none, frzCall_some, alt_none, alt_some, regrun_false, regrun_true, noLd_dt, mkLd_dt, dtGet, rdraw_eq, rrunD_nil, rrunD_cons, contD_eq, rstepD_eq, outDr_some, outC_zero, outC_succ, needs, chk, stR, opR, jk, jkL, meets, shf, nums, sets, Op.operands, Call.operands, noM_mk, callV_fn, aop_call, take_map_all, guardOk, aop, ev, putD, ofV, ofV1, Value.oneCell', asNat, abin, aun, pickAV, scal, frz, TypeDesc.aggB, AV.cells, lenAV, getAt, loadCell, loadCells, res, resL, intern, internL, putCells, ownR, ownRL, ownV, drops, flat, kill, killL, killN, killNL, clean, keep, refsL, refs, once, place, renL, ren, ctx, G, resOk, resVars, resVar, ownR, ownRL, pack, viewEs, bndOf, appX, appY, List.range, List.range.loop, ty2, ty3, ty4, ty5, ty9, ty12, ty21, ty22, ty23, ty28, ty33, ty44, ty50, ty61, ty72, ty73, ty83, ty89, ty106, ty110, ty113, ty119, ty129, eqT, cellInts, bld, partOk, nilAV, bytesOf, intss, row, int, bool, mWithin, h, h0, hl, hl', hre]
  · have hk' : k = xss.length := by omega
    subst hk'
    rw [all_of hno] at hre
    simp [awp_skip, awp_seq, awp_block, awp_exit, awp_ret, awp_loop, awp_region, awp_cond, contS_normal, contS_exit, contS_ret, inB_normal, inB_exit, inB_ret, loopS_normal, loopS_exit, loopS_ret, doneS_normal, doneS_ret, regS_some, condS_bool, bindS_some, rrun_nil, rrun_cons, outD_some, stepG_some, rstep_eq, callOut_some, callOut_none, mutCall_none, movCall_none, frzCall_none, frzCall_some, alt_none, alt_some, regrun_false, regrun_true, noLd_dt, mkLd_dt, dtGet, rdraw_eq, rrunD_nil, rrunD_cons, contD_eq, rstepD_eq, outDr_some, outC_zero, outC_succ, needs, chk, stR, opR, jk, jkL, meets, shf, nums, sets, Op.operands, Call.operands, noM_mk, callV_fn, aop_call, take_map_all, guardOk, aop, ev, putD, ofV, ofV1, Value.oneCell', asNat, abin, aun, pickAV, scal, frz, TypeDesc.aggB, AV.cells, lenAV, getAt, loadCell, loadCells, res, resL, intern, internL, putCells, ownR, ownRL, ownV, drops, flat, kill, killL, killN, killNL, clean, keep, refsL, refs, once, place, renL, ren, ctx, G, resOk, resVars, resVar, ownR, ownRL, pack, viewEs, bndOf, appX, appY, List.range, List.range.loop, ty2, ty3, ty4, ty5, ty9, ty12, ty21, ty22, ty23, ty28, ty33, ty44, ty50, ty61, ty72, ty73, ty83, ty89, ty106, ty110, ty113, ty119, ty129, eqT, cellInts, bld, partOk, nilAV, bytesOf, intss, int, bool, hre]

set_option maxHeartbeats 2000000 in
theorem specCakeOk_ok : FnOk Try.prog 75 (mGrid 3 10 100) := by
  refine mk_ok fun ⟨nl, xss⟩ _ => ?_
  have hG : FnsOk Try.prog [(69, mWithin)] := .cons l01In_ok .nil
  refine callOk_awp (ctx_ok eqOk hG) mixed (live := [true, false, true, false, true, false, true, false, false, false, false, false, false, false, false, false, false, false, true, true, true, true, true, false, false, false, false, false, false, false, false, true, true, true, true, true, false, false, false, false, true]) (dt := []) Try.func75 rfl (by kernel_rfl) (by kernel_rfl) fun w0 hlens => ?_
  have hpr : ∀ x ∈ xss, x.2.length ≤ 9223372036854775807 ∧ (x.1 = true → x.2 = []) := (lens_intss.1 hlens.1).2
  have hp : xss.length ≤ 9223372036854775807 := (lens_intss.1 hlens.1).1.1
  by_cases h1 : inR 1 3 xss.length = true
  rotate_left
  · have h1' : (decide (1 ≤ (xss.length : Int)) && decide ((xss.length : Int) ≤ 3)) = false := by simpa [inR] using h1
    have hr : rectB xss 3 10 100 = false := by
      by_cases h0 : 0 < xss.length
      · rw [rectB_eq h0]; simp [h1]
      · exact rectB_nil h0
    simp [Try.f75, awp_skip, awp_seq, awp_block, awp_exit, awp_ret, awp_loop, awp_region, awp_cond, contS_normal, contS_exit, contS_ret, inB_normal, inB_exit, inB_ret, loopS_normal, loopS_exit, loopS_ret, doneS_normal, doneS_ret, regS_some, condS_bool, bindS_some, rrun_nil, rrun_cons, outD_some, stepG_some, rstep_eq, callOut_some, callOut_none, mutCall_none, movCall_none, frzCall_none, frzCall_some, alt_none, alt_some, regrun_false, regrun_true, noLd_dt, mkLd_dt, dtGet, rdraw_eq, rrunD_nil, rrunD_cons, contD_eq, rstepD_eq, outDr_some, outC_zero, outC_succ, needs, chk, stR, opR, jk, jkL, meets, shf, nums, sets, Op.operands, Call.operands, noM_mk, callV_fn, aop_call, take_map_all, guardOk, aop, ev, putD, ofV, ofV1, Value.oneCell', asNat, abin, aun, pickAV, scal, frz, TypeDesc.aggB, AV.cells, lenAV, getAt, loadCell, loadCells, res, resL, intern, internL, putCells, ownR, ownRL, ownV, drops, flat, kill, killL, killN, killNL, clean, keep, refsL, refs, once, place, renL, ren, ctx, G, resOk, resVars, resVar, ownR, ownRL, pack, viewEs, bndOf, appX, appY, List.range, List.range.loop, ty2, ty3, ty4, ty5, ty9, ty12, ty21, ty22, ty23, ty28, ty33, ty44, ty50, ty61, ty72, ty73, ty83, ty89, ty106, ty110, ty113, ty119, ty129, eqT, cellInts, bld, partOk, nilAV, bytesOf, intss, int, bool, mWithin, h1', hr]
  have h0 : 0 < xss.length := by simp [inR] at h1; omega
  have hre := rectB_eq (a := 3) (b := 10) (c := 100) h0
  have h1' : (1 : Int) ≤ (xss.length : Int) ∧ (xss.length : Int) ≤ 3 := by simpa [inR] using h1
  by_cases h2 : inR 1 10 xss[0].2.length = true
  rotate_left
  · have h2' : (decide (1 ≤ (xss[0].2.length : Int)) && decide ((xss[0].2.length : Int) ≤ 10)) = false := by simpa [inR] using h2
    simp [h1, h2] at hre
    simp [Try.f75, awp_skip, awp_seq, awp_block, awp_exit, awp_ret, awp_loop, awp_region, awp_cond, contS_normal, contS_exit, contS_ret, inB_normal, inB_exit, inB_ret, loopS_normal, loopS_exit, loopS_ret, doneS_normal, doneS_ret, regS_some, condS_bool, bindS_some, rrun_nil, rrun_cons, outD_some, stepG_some, rstep_eq, callOut_some, callOut_none, mutCall_none, movCall_none, frzCall_none, frzCall_some, alt_none, alt_some, regrun_false, regrun_true, noLd_dt, mkLd_dt, dtGet, rdraw_eq, rrunD_nil, rrunD_cons, contD_eq, rstepD_eq, outDr_some, outC_zero, outC_succ, needs, chk, stR, opR, jk, jkL, meets, shf, nums, sets, Op.operands, Call.operands, noM_mk, callV_fn, aop_call, take_map_all, guardOk, aop, ev, putD, ofV, ofV1, Value.oneCell', asNat, abin, aun, pickAV, scal, frz, TypeDesc.aggB, AV.cells, lenAV, getAt, loadCell, loadCells, res, resL, intern, internL, putCells, ownR, ownRL, ownV, drops, flat, kill, killL, killN, killNL, clean, keep, refsL, refs, once, place, renL, ren, ctx, G, resOk, resVars, resVar, ownR, ownRL, pack, viewEs, bndOf, appX, appY, List.range, List.range.loop, ty2, ty3, ty4, ty5, ty9, ty12, ty21, ty22, ty23, ty28, ty33, ty44, ty50, ty61, ty72, ty73, ty83, ty89, ty106, ty110, ty113, ty119, ty129, eqT, cellInts, bld, partOk, nilAV, bytesOf, intss, row, int, bool, mWithin, h1', h2', hre, h0]
    intro a b
    exfalso
    simp [inR] at h2
    omega
  have h2' : (1 : Int) ≤ (xss[0].2.length : Int) ∧ (xss[0].2.length : Int) ≤ 10 := by simpa [inR] using h2
  rw [h1, h2] at hre
  simp only [Bool.true_and] at hre
  generalize hrb : rectB xss 3 10 100 = rb at hre ⊢
  simp [Try.f75, awp_skip, awp_seq, awp_block, awp_exit, awp_ret, awp_loop, awp_region, awp_cond, contS_normal, contS_exit, contS_ret, inB_normal, inB_exit, inB_ret, loopS_normal, loopS_exit, loopS_ret, doneS_normal, doneS_ret, regS_some, condS_bool, bindS_some, rrun_nil, rrun_cons, outD_some, stepG_some, rstep_eq, callOut_some, callOut_none, mutCall_none, movCall_none, frzCall_none, frzCall_some, alt_none, alt_some, regrun_false, regrun_true, noLd_dt, mkLd_dt, dtGet, rdraw_eq, rrunD_nil, rrunD_cons, contD_eq, rstepD_eq, outDr_some, outC_zero, outC_succ, needs, chk, stR, opR, jk, jkL, meets, shf, nums, sets, Op.operands, Call.operands, noM_mk, callV_fn, aop_call, take_map_all, guardOk, aop, ev, putD, ofV, ofV1, Value.oneCell', asNat, abin, aun, pickAV, scal, frz, TypeDesc.aggB, AV.cells, lenAV, getAt, loadCell, loadCells, res, resL, intern, internL, putCells, ownR, ownRL, ownV, drops, flat, kill, killL, killN, killNL, clean, keep, refsL, refs, once, place, renL, ren, ctx, G, resOk, resVars, resVar, ownR, ownRL, pack, viewEs, bndOf, appX, appY, List.range, List.range.loop, ty2, ty3, ty4, ty5, ty9, ty12, ty21, ty22, ty23, ty28, ty33, ty44, ty50, ty61, ty72, ty73, ty83, ty89, ty106, ty110, ty113, ty119, ty129, eqT, cellInts, bld, partOk, nilAV, bytesOf, intss, row, int, bool, mWithin, h1', h2', h0]
  refine awp_loop_of (ctx_ok eqOk hG) mixed (live := [true, false, true, false, true, false, true, false, false, false, false, false, false, false, false, false, false, false, true, true, true, true, true, false, false, false, false, false, false, false, false, true, true, true, true, true, false, false, false, false, true]) [true, false, false, false, false, false, false, false, false, false, false, false, false, false, false, false, false, false, false, true, true, true] (α := {k : Nat // k ≤ xss.length ∧ ∀ j (hj : j < xss.length), j < k → rowIs xss[0].2.length 100 xss[j] = true})
    (fun k => ⟨[intss nl xss, .junk, .junk, .junk, .junk, .junk, .junk, .junk, .junk, .junk, .junk, .junk, .junk, .junk, .junk, .junk, .junk, .junk, .junk, intss nl xss, int xss.length, int k.1, .junk, .junk, .junk, .junk, .junk, .junk, .junk, .junk, .junk, .junk, .junk, .junk, .junk, .junk, .junk, .junk, .junk, .junk, .junk, .junk, .junk], []⟩) (fun k => xss.length - k.1) ⟨0, by omega, by omega⟩
    (by simp [sub, slotsLe, clean, keep, refsL, refs, once, place, renL, ren, List.replicate, int, bool, intss]) ?_
  rintro ⟨k, hk, hno⟩
  by_cases h : k < xss.length
  · by_cases hl : xss[k].2.length = xss[0].2.length
    · simp [awp_skip, awp_seq, awp_block, awp_exit, awp_ret, awp_loop, awp_region, awp_cond, contS_normal, contS_exit, contS_ret, inB_normal, inB_exit, inB_ret, loopS_normal, loopS_exit, loopS_ret, doneS_normal, doneS_ret, regS_some, condS_bool, bindS_some, rrun_nil, rrun_cons, outD_some, stepG_some, rstep_eq, callOut_some, callOut_none, mutCall_none, movCall_none, frzCall_none, frzCall_some, alt_none, alt_some, regrun_false, regrun_true, noLd_dt, mkLd_dt, dtGet, rdraw_eq, rrunD_nil, rrunD_cons, contD_eq, rstepD_eq, outDr_some, outC_zero, outC_succ, needs, chk, stR, opR, jk, jkL, meets, shf, nums, sets, Op.operands, Call.operands, noM_mk, callV_fn, aop_call, take_map_all, guardOk, aop, ev, putD, ofV, ofV1, Value.oneCell', asNat, abin, aun, pickAV, scal, frz, TypeDesc.aggB, AV.cells, lenAV, getAt, loadCell, loadCells, res, resL, intern, internL, putCells, ownR, ownRL, ownV, drops, flat, kill, killL, killN, killNL, clean, keep, refsL, refs, once, place, renL, ren, ctx, G, resOk, resVars, resVar, ownR, ownRL, pack, viewEs, bndOf, appX, appY, List.range, List.range.loop, ty2, ty3, ty4, ty5, ty9, ty12, ty21, ty22, ty23, ty28, ty33, ty44, ty50, ty61, ty72, ty73, ty83, ty89, ty106, ty110, ty113, ty119, ty129, eqT, cellInts, bld, partOk, nilAV, bytesOf, intss, row, int, bool, mWithin, h, h0, hl]
      refine awp_loop_of (ctx_ok eqOk hG) mixed (live := [true, false, true, false, true, false, true, false, false, false, false, false, false, false, false, false, false, false, true, true, true, true, true, false, false, false, false, false, false, false, false, true, true, true, true, true, false, false, false, false, true]) [true, false, false, false, false, false, false, false, false, false, false, false, false, false, false, false, false, false, false, true, true, true, false, false, false, false, false, false, false, false, false, false, true, true, true] (α := {m : Nat // m ≤ xss[k].2.length ∧ ∀ j (hj : j < xss[k].2.length), j < m → inR 0 100 xss[k].2[j] = true})
        (fun m => ⟨[intss nl xss, .junk, .junk, .junk, .junk, .junk, .junk, .junk, .junk, .junk, .junk, .junk, .junk, .junk, .junk, .junk, .junk, .junk, .junk, intss nl xss, int xss.length, int k, .junk, .junk, .junk, .junk, .junk, .junk, .junk, .junk, .junk, .junk, row xss[k], int xss[k].2.length, int m.1, .junk, .junk, .junk, .junk, .junk, .junk, .junk, .junk], []⟩) (fun m => xss[k].2.length - m.1) ⟨0, by omega, by omega⟩
        (by simp [sub, slotsLe, clean, keep, refsL, refs, once, place, renL, ren, List.replicate, int, bool, intss, row, hl]) ?_
      rintro ⟨m, hm, hmo⟩
      by_cases hx : m < xss[k].2.length
      · cases hv : inR 0 100 xss[k].2[m] with
        | true =>
          have hv' : (0 : Int) ≤ xss[k].2[m] ∧ xss[k].2[m] ≤ 100 := by simpa [inR] using hv
          simp [awp_skip, awp_seq, awp_block, awp_exit, awp_ret, awp_loop, awp_region, awp_cond, contS_normal, contS_exit, contS_ret, inB_normal, inB_exit, inB_ret, loopS_normal, loopS_exit, loopS_ret, doneS_normal, doneS_ret, regS_some, condS_bool, bindS_some, rrun_nil, rrun_cons, outD_some, stepG_some, rstep_eq, callOut_some, callOut_none, mutCall_none, movCall_none, frzCall_none, frzCall_some, alt_none, alt_some, regrun_false, regrun_true, noLd_dt, mkLd_dt, dtGet, rdraw_eq, rrunD_nil, rrunD_cons, contD_eq, rstepD_eq, outDr_some, outC_zero, outC_succ, needs, chk, stR, opR, jk, jkL, meets, shf, nums, sets, Op.operands, Call.operands, noM_mk, callV_fn, aop_call, take_map_all, guardOk, aop, ev, putD, ofV, ofV1, Value.oneCell', asNat, abin, aun, pickAV, scal, frz, TypeDesc.aggB, AV.cells, lenAV, getAt, loadCell, loadCells, res, resL, intern, internL, putCells, ownR, ownRL, ownV, drops, flat, kill, killL, killN, killNL, clean, keep, refsL, refs, once, place, renL, ren, ctx, G, resOk, resVars, resVar, ownR, ownRL, pack, viewEs, bndOf, appX, appY, List.range, List.range.loop, ty2, ty3, ty4, ty5, ty9, ty12, ty21, ty22, ty23, ty28, ty33, ty44, ty50, ty61, ty72, ty73, ty83, ty89, ty106, ty110, ty113, ty119, ty129, eqT, cellInts, bld, partOk, nilAV, bytesOf, intss, row, int, bool, mWithin, h, h0, hx, hv']
          refine ⟨⟨m + 1, hx, fun j hj hjm => ?_⟩, ?_, by simp; omega⟩
          · by_cases e : j = m
            · subst e; exact hv
            · exact hmo j hj (by omega)
          simp [sub, slotsLe, clean, keep, refsL, refs, once, place, renL, ren, List.replicate, int, bool, intss, row]
          exact wrapI (by omega) (by have := hpr xss[k] (List.getElem_mem _); omega)
        | false =>
          have hv' : (decide ((0 : Int) ≤ xss[k].2[m]) && decide (xss[k].2[m] ≤ 100)) = false := by simpa [inR] using hv
          have hf : rowIs xss[0].2.length 100 xss[k] = false := by simp only [rowIs, Bool.and_eq_false_iff]; exact .inr (all_not hx hv)
          rw [all_not h hf] at hre
          simp [awp_skip, awp_seq, awp_block, awp_exit, awp_ret, awp_loop, awp_region, awp_cond, contS_normal, contS_exit, contS_ret, inB_normal, inB_exit, inB_ret, loopS_normal, loopS_exit, loopS_ret, doneS_normal, doneS_ret, regS_some, condS_bool, bindS_some, rrun_nil, rrun_cons, outD_some, stepG_some, rstep_eq, callOut_some, callOut_none, mutCall_none, movCall_none, frzCall_none, frzCall_some, alt_none, alt_some, regrun_false, regrun_true, noLd_dt, mkLd_dt, dtGet, rdraw_eq, rrunD_nil, rrunD_cons, contD_eq, rstepD_eq, outDr_some, outC_zero, outC_succ, needs, chk, stR, opR, jk, jkL, meets, shf, nums, sets, Op.operands, Call.operands, noM_mk, callV_fn, aop_call, take_map_all, guardOk, aop, ev, putD, ofV, ofV1, Value.oneCell', asNat, abin, aun, pickAV, scal, frz, TypeDesc.aggB, AV.cells, lenAV, getAt, loadCell, loadCells, res, resL, intern, internL, putCells, ownR, ownRL, ownV, drops, flat, kill, killL, killN, killNL, clean, keep, refsL, refs, once, place, renL, ren, ctx, G, resOk, resVars, resVar, ownR, ownRL, pack, viewEs, bndOf, appX, appY, List.range, List.range.loop, ty2, ty3, ty4, ty5, ty9, ty12, ty21, ty22, ty23, ty28, ty33, ty44, ty50, ty61, ty72, ty73, ty83, ty89, ty106, ty110, ty113, ty119, ty129, eqT, cellInts, bld, partOk, nilAV, bytesOf, intss, row, int, bool, mWithin, h, h0, hx, hv', hre]
      · have hm' : m = xss[k].2.length := by omega
        subst hm'
        simp [awp_skip, awp_seq, awp_block, awp_exit, awp_ret, awp_loop, awp_region, awp_cond, contS_normal, contS_exit, contS_ret, inB_normal, inB_exit, inB_ret, loopS_normal, loopS_exit, loopS_ret, doneS_normal, doneS_ret, regS_some, condS_bool, bindS_some, rrun_nil, rrun_cons, outD_some, stepG_some, rstep_eq, callOut_some, callOut_none, mutCall_none, movCall_none, frzCall_none, frzCall_some, alt_none, alt_some, regrun_false, regrun_true, noLd_dt, mkLd_dt, dtGet, rdraw_eq, rrunD_nil, rrunD_cons, contD_eq, rstepD_eq, outDr_some, outC_zero, outC_succ, needs, chk, stR, opR, jk, jkL, meets, shf, nums, sets, Op.operands, Call.operands, noM_mk, callV_fn, aop_call, take_map_all, guardOk, aop, ev, putD, ofV, ofV1, Value.oneCell', asNat, abin, aun, pickAV, scal, frz, TypeDesc.aggB, AV.cells, lenAV, getAt, loadCell, loadCells, res, resL, intern, internL, putCells, ownR, ownRL, ownV, drops, flat, kill, killL, killN, killNL, clean, keep, refsL, refs, once, place, renL, ren, ctx, G, resOk, resVars, resVar, ownR, ownRL, pack, viewEs, bndOf, appX, appY, List.range, List.range.loop, ty2, ty3, ty4, ty5, ty9, ty12, ty21, ty22, ty23, ty28, ty33, ty44, ty50, ty61, ty72, ty73, ty83, ty89, ty106, ty110, ty113, ty119, ty129, eqT, cellInts, bld, partOk, nilAV, bytesOf, intss, row, int, bool, mWithin, h, h0]
        refine ⟨⟨k + 1, h, fun j hj hjk => ?_⟩, ?_, by simp; omega⟩
        · by_cases e : j = k
          · subst e; simp only [rowIs, Bool.and_eq_true, decide_eq_true_eq]; exact ⟨hl, all_of hmo⟩
          · exact hno j hj (by omega)
        simp [sub, slotsLe, clean, keep, refsL, refs, once, place, renL, ren, List.replicate, int, bool, intss]
        exact wrapI (by omega) (by omega)
    · have hl' : ((xss[k].2.length : Int) != xss[0].2.length) = true := by simp; omega
      have hf : rowIs xss[0].2.length 100 xss[k] = false := by simp [rowIs, hl]
      rw [all_not h hf] at hre
      simp [awp_skip, awp_seq, awp_block, awp_exit, awp_ret, awp_loop, awp_region, awp_cond, contS_normal, contS_exit, contS_ret, inB_normal, inB_exit, inB_ret, loopS_normal, loopS_exit, loopS_ret, doneS_normal, doneS_ret, regS_some, condS_bool, bindS_some, rrun_nil, rrun_cons, outD_some, stepG_some, rstep_eq, callOut_some, callOut_none, mutCall_none, movCall_none, frzCall_none, frzCall_some, alt_none, alt_some, regrun_false, regrun_true, noLd_dt, mkLd_dt, dtGet, rdraw_eq, rrunD_nil, rrunD_cons, contD_eq, rstepD_eq, outDr_some, outC_zero, outC_succ, needs, chk, stR, opR, jk, jkL, meets, shf, nums, sets, Op.operands, Call.operands, noM_mk, callV_fn, aop_call, take_map_all, guardOk, aop, ev, putD, ofV, ofV1, Value.oneCell', asNat, abin, aun, pickAV, scal, frz, TypeDesc.aggB, AV.cells, lenAV, getAt, loadCell, loadCells, res, resL, intern, internL, putCells, ownR, ownRL, ownV, drops, flat, kill, killL, killN, killNL, clean, keep, refsL, refs, once, place, renL, ren, ctx, G, resOk, resVars, resVar, ownR, ownRL, pack, viewEs, bndOf, appX, appY, List.range, List.range.loop, ty2, ty3, ty4, ty5, ty9, ty12, ty21, ty22, ty23, ty28, ty33, ty44, ty50, ty61, ty72, ty73, ty83, ty89, ty106, ty110, ty113, ty119, ty129, eqT, cellInts, bld, partOk, nilAV, bytesOf, intss, row, int, bool, mWithin, h, h0, hl, hl', hre]
  · have hk' : k = xss.length := by omega
    subst hk'
    rw [all_of hno] at hre
    simp [awp_skip, awp_seq, awp_block, awp_exit, awp_ret, awp_loop, awp_region, awp_cond, contS_normal, contS_exit, contS_ret, inB_normal, inB_exit, inB_ret, loopS_normal, loopS_exit, loopS_ret, doneS_normal, doneS_ret, regS_some, condS_bool, bindS_some, rrun_nil, rrun_cons, outD_some, stepG_some, rstep_eq, callOut_some, callOut_none, mutCall_none, movCall_none, frzCall_none, frzCall_some, alt_none, alt_some, regrun_false, regrun_true, noLd_dt, mkLd_dt, dtGet, rdraw_eq, rrunD_nil, rrunD_cons, contD_eq, rstepD_eq, outDr_some, outC_zero, outC_succ, needs, chk, stR, opR, jk, jkL, meets, shf, nums, sets, Op.operands, Call.operands, noM_mk, callV_fn, aop_call, take_map_all, guardOk, aop, ev, putD, ofV, ofV1, Value.oneCell', asNat, abin, aun, pickAV, scal, frz, TypeDesc.aggB, AV.cells, lenAV, getAt, loadCell, loadCells, res, resL, intern, internL, putCells, ownR, ownRL, ownV, drops, flat, kill, killL, killN, killNL, clean, keep, refsL, refs, once, place, renL, ren, ctx, G, resOk, resVars, resVar, ownR, ownRL, pack, viewEs, bndOf, appX, appY, List.range, List.range.loop, ty2, ty3, ty4, ty5, ty9, ty12, ty21, ty22, ty23, ty28, ty33, ty44, ty50, ty61, ty72, ty73, ty83, ty89, ty106, ty110, ty113, ty119, ty129, eqT, cellInts, bld, partOk, nilAV, bytesOf, intss, int, bool, hre]

end Go.Proofs.Ytbiefpodcenpoaa.Ax

/-
  Contracts of the two PointsOk. No condition.
-/
namespace Go.Proofs.Ytbiefpodcenpoaa.Ax
open Go Go.RowKit
set_option linter.unusedSimpArgs false

set_option maxHeartbeats 400000 in
theorem l13Sum_ok : FnOk Try.prog 92 mSum := by
  refine mk_ok fun ⟨nl, xs⟩ _ => ?_
  refine callOk_awp (ctx_ok eqOk .nil) mixed (live := [true, false, true, true, false, true, true, true, true, true]) (dt := []) Try.func92 rfl (by kernel_rfl) (by kernel_rfl) fun w0 hlens => ?_
  have hpre : xs.length ≤ 9223372036854775807 := (lens_ints.1 hlens.1).1
  simp [Try.f92, awp_skip, awp_seq, awp_block, awp_exit, awp_ret, awp_loop, awp_region, awp_cond, contS_normal, contS_exit, contS_ret, inB_normal, inB_exit, inB_ret, loopS_normal, loopS_exit, loopS_ret, doneS_normal, doneS_ret, regS_some, condS_bool, bindS_some, rrun_nil, rrun_cons, outD_some, stepG_some, rstep_eq, callOut_some, callOut_none, mutCall_none, movCall_none, frzCall_none, frzCall_some, alt_none, alt_some, regrun_false, regrun_true, noLd_dt, mkLd_dt, dtGet, rdraw_eq, rrunD_nil, rrunD_cons, contD_eq, rstepD_eq, outDr_some, outC_zero, outC_succ, needs, chk, stR, opR, jk, jkL, meets, shf, nums, sets, Op.operands, Call.operands, noM_mk, callV_fn, aop_call, take_map_all, guardOk, aop, ev, putD, ofV, ofV1, Value.oneCell', asNat, abin, aun, pickAV, scal, frz, TypeDesc.aggB, AV.cells, lenAV, getAt, loadCell, loadCells, res, resL, intern, internL, putCells, ownR, ownRL, ownV, drops, flat, kill, killL, killN, killNL, clean, keep, refsL, refs, once, place, renL, ren, ctx, G, resOk, resVars, resVar, ownR, ownRL, pack, viewEs, bndOf, appX, appY, List.range, List.range.loop, ty2, ty3, ty4, ty5, ty9, ty12, ty21, ty22, ty23, ty28, ty33, ty44, ty50, ty61, ty72, ty73, ty83, ty89, ty106, ty110, ty113, ty119, ty129, eqT, cellInts, bld, partOk, nilAV, bytesOf, ints]
  refine awp_loop_of (ctx_ok eqOk .nil) mixed (live := [true, false, true, true, false, true, true, true, true, true]) [false, false, false, true, false, false, true, true, true] (α := {k : Nat // k ≤ xs.length})
    (fun k => ⟨[.junk, .junk, .junk, int (sumW (xs.take k.1)), .junk, .junk, ints nl xs, int xs.length, int k.1, .junk, .junk, .junk, .junk, .junk, .junk, .junk, .junk], []⟩) (fun k => xs.length - k.1) ⟨0, by omega⟩ (by simp [sub, slotsLe, clean, keep, refsL, refs, once, place, renL, ren, List.replicate, int, bool, ints, sumW]) ?_
  rintro ⟨k, hk⟩
  by_cases h : k < xs.length
  · simp [awp_skip, awp_seq, awp_block, awp_exit, awp_ret, awp_loop, awp_region, awp_cond, contS_normal, contS_exit, contS_ret, inB_normal, inB_exit, inB_ret, loopS_normal, loopS_exit, loopS_ret, doneS_normal, doneS_ret, regS_some, condS_bool, bindS_some, rrun_nil, rrun_cons, outD_some, stepG_some, rstep_eq, callOut_some, callOut_none, mutCall_none, movCall_none, frzCall_none, frzCall_some, alt_none, alt_some, regrun_false, regrun_true, noLd_dt, mkLd_dt, dtGet, rdraw_eq, rrunD_nil, rrunD_cons, contD_eq, rstepD_eq, outDr_some, outC_zero, outC_succ, needs, chk, stR, opR, jk, jkL, meets, shf, nums, sets, Op.operands, Call.operands, noM_mk, callV_fn, aop_call, take_map_all, guardOk, aop, ev, putD, ofV, ofV1, Value.oneCell', asNat, abin, aun, pickAV, scal, frz, TypeDesc.aggB, AV.cells, lenAV, getAt, loadCell, loadCells, res, resL, intern, internL, putCells, ownR, ownRL, ownV, drops, flat, kill, killL, killN, killNL, clean, keep, refsL, refs, once, place, renL, ren, ctx, G, resOk, resVars, resVar, ownR, ownRL, pack, viewEs, bndOf, appX, appY, List.range, List.range.loop, ty2, ty3, ty4, ty5, ty9, ty12, ty21, ty22, ty23, ty28, ty33, ty44, ty50, ty61, ty72, ty73, ty83, ty89, ty106, ty110, ty113, ty119, ty129, eqT, cellInts, bld, partOk, nilAV, bytesOf, ints, int, h]
    refine ⟨⟨k + 1, h⟩, ?_, by simp; omega⟩
    simp [sub, slotsLe, clean, keep, refsL, refs, once, place, renL, ren, List.replicate, int, bool, ints, sumW_succ h]
    rw [wrapI (by omega) (by omega)]
  · simp [awp_skip, awp_seq, awp_block, awp_exit, awp_ret, awp_loop, awp_region, awp_cond, contS_normal, contS_exit, contS_ret, inB_normal, inB_exit, inB_ret, loopS_normal, loopS_exit, loopS_ret, doneS_normal, doneS_ret, regS_some, condS_bool, bindS_some, rrun_nil, rrun_cons, outD_some, stepG_some, rstep_eq, callOut_some, callOut_none, mutCall_none, movCall_none, frzCall_none, frzCall_some, alt_none, alt_some, regrun_false, regrun_true, noLd_dt, mkLd_dt, dtGet, rdraw_eq, rrunD_nil, rrunD_cons, contD_eq, rstepD_eq, outDr_some, outC_zero, outC_succ, needs, chk, stR, opR, jk, jkL, meets, shf, nums, sets, Op.operands, Call.operands, noM_mk, callV_fn, aop_call, take_map_all, guardOk, aop, ev, putD, ofV, ofV1, Value.oneCell', asNat, abin, aun, pickAV, scal, frz, TypeDesc.aggB, AV.cells, lenAV, getAt, loadCell, loadCells, res, resL, intern, internL, putCells, ownR, ownRL, ownV, drops, flat, kill, killL, killN, killNL, clean, keep, refsL, refs, once, place, renL, ren, ctx, G, resOk, resVars, resVar, ownR, ownRL, pack, viewEs, bndOf, appX, appY, List.range, List.range.loop, ty2, ty3, ty4, ty5, ty9, ty12, ty21, ty22, ty23, ty28, ty33, ty44, ty50, ty61, ty72, ty73, ty83, ty89, ty106, ty110, ty113, ty119, ty129, eqT, cellInts, bld, partOk, nilAV, bytesOf, ints, int, h]
    rw [List.take_of_length_le (by omega)]

/-- A row of n numbers from 0 to 100 that come to 100. -/
def rowP (n : Nat) (r : Bool × List Int) : Bool := rowIs n 100 r && decide (sumW r.2 = 100)
def pointsB (xss : List (Bool × List Int)) : Bool := match xss with
  | [a, b] => inR 1 6 a.2.length && (rowP a.2.length a && rowP a.2.length b)
  | _ => false
theorem pointsB_eq {xss : List (Bool × List Int)} (h : xss.length = 2) : pointsB xss = (inR 1 6 (xss[0]'(by omega)).2.length && xss.all (rowP (xss[0]'(by omega)).2.length)) := by
  match xss, h with
  | [a, b], _ => simp [pointsB]
theorem pointsB_ne {xss : List (Bool × List Int)} (h : ¬ xss.length = 2) : pointsB xss = false := by
  match xss, h with
  | [], _ => rfl
  | [a], _ => rfl
  | [a, b], h => simp at h
  | a :: b :: c :: l, _ => rfl
theorem pointsB_rect {xss : List (Bool × List Int)} (h : xss.length = 2) : pointsB xss = (rectB xss 2 6 100 && (decide (sumW (xss[0]'(by omega)).2 = 100) && decide (sumW (xss[1]'(by omega)).2 = 100))) := by
  match xss, h with
  | [a, b], _ =>
    simp only [pointsB, rectB, rowP, List.all_cons, List.all_nil, List.getElem_cons_zero, List.getElem_cons_succ, List.length_cons, List.length_nil]
    rw [show inR 1 2 ((0 + 1 + 1 : Nat) : Int) = true from rfl]
    generalize inR 1 6 _ = p
    generalize rowIs _ _ a = q
    generalize rowIs _ _ b = r
    generalize decide (sumW a.2 = 100) = s
    generalize decide (sumW b.2 = 100) = t
    cases p <;> cases q <;> cases r <;> cases s <;> cases t <;> rfl

noncomputable def mPoints : List AV → Option AV := mk (fun _ => True) (fun (p : Bool × List (Bool × List Int)) => [intss p.1 p.2]) (fun p => bool (pointsB p.2))
theorem mPoints_at (nl : Bool) (xs : List (Bool × List Int)) : mPoints [.sl nl 1 (xs.map row)] = some (.v (.bool (pointsB xs))) :=
  mk_eq (enc := fun (p : Bool × List (Bool × List Int)) => [intss p.1 p.2]) (x := (nl, xs)) (by rintro ⟨x, x'⟩ ⟨y, y'⟩ h; simp [intss, map_row_inj] at h; simp [h]) trivial

end Go.Proofs.Ytbiefpodcenpoaa.Ax

/-
  Contracts: where a number stands in a list (both programs, the library). No condition.
-/
namespace Go.Proofs.Ytbiefpodcenpoaa.Ax
open Go Go.RowKit
set_option linter.unusedSimpArgs false

/-- The place of v among xs from place i on (k: the place of the head), or -1. -/
def posFrom (v : Int) : List Int → Nat → Int
  | [], _ => -1
  | x :: xs, k => if x = v then k else posFrom v xs (k + 1)
def pos (xs : List Int) (v : Int) : Int := posFrom v xs 0

theorem drop_get {α : Type} {xs : List α} {k : Nat} (h : k < xs.length) : xs.drop k = xs[k] :: xs.drop (k + 1) := List.drop_eq_getElem_cons h

noncomputable def mPos : List AV → Option AV := mk (fun _ => True) (fun (p : (Bool) × (List Int) × (Int)) => [ints p.1 p.2.1, int p.2.2]) (fun p => int (pos p.2.1 p.2.2))
theorem mPos_at (nl : Bool) (xs : List Int) (v : Int) : mPos [.sl nl 1 (xs.map int), .v (.int .i64 v)] = some (.v (.int .i64 (pos xs v))) :=
  mk_eq (enc := fun (p : (Bool) × (List Int) × (Int)) => [ints p.1 p.2.1, int p.2.2]) (x := (nl, xs, v)) (by rintro ⟨a0, a1, a2⟩ ⟨b0, b1, b2⟩ h; simp [ints, intss, int, bool, row, frac, fracs, map_int_inj, map_row_inj, frac_inj, map_frac_inj] at h; simp [h]) trivial

set_option maxHeartbeats 1000000 in
theorem slicesIndex_ok : FnOk Try.prog 120 mPos := by
  refine mk_ok fun ⟨nl, xs, v⟩ _ => ?_
  have hG : FnsOk Try.prog [] := .nil
  refine callOk_awp (ctx_ok eqOk hG) mixed (live := [true, true, false, false, true, true, false, true, true, true, false, false, false, false, false, false, true]) (dt := []) Try.func120 rfl (by kernel_rfl) (by kernel_rfl) fun w0 hlens => ?_
  simp only [lensL, lens, ints, int, List.length_map] at hlens
  generalize hr : pos xs v = r
  simp [Try.f120, awp_skip, awp_seq, awp_block, awp_exit, awp_ret, awp_loop, awp_region, awp_cond, contS_normal, contS_exit, contS_ret, inB_normal, inB_exit, inB_ret, loopS_normal, loopS_exit, loopS_ret, doneS_normal, doneS_ret, regS_some, condS_bool, bindS_some, rrun_nil, rrun_cons, outD_some, stepG_some, rstep_eq, callOut_some, callOut_none, mutCall_none, movCall_none, frzCall_none, frzCall_some, alt_none, alt_some, regrun_false, regrun_true, noLd_dt, mkLd_dt, dtGet, rdraw_eq, rrunD_nil, rrunD_cons, contD_eq, rstepD_eq, outDr_some, outC_zero, outC_succ, needs, chk, stR, opR, jk, jkL, meets, shf, nums, sets, Op.operands, Call.operands, noM_mk, callV_fn, aop_call, take_map_all, guardOk, aop, ev, putD, ofV, ofV1, Value.oneCell', asNat, abin, aun, pickAV, scal, frz, TypeDesc.aggB, AV.cells, lenAV, getAt, loadCell, loadCells, res, resL, intern, internL, putCells, ownR, ownRL, ownV, drops, flat, kill, killL, killN, killNL, clean, keep, refsL, refs, once, place, renL, ren, ctx, G, resOk, resVars, resVar, ownR, ownRL, pack, viewEs, bndOf, appX, appY, List.range, List.range.loop, ty2, ty3, ty4, ty5, ty9, ty12, ty21, ty22, ty23, ty28, ty33, ty44, ty50, ty61, ty72, ty73, ty83, ty89, ty106, ty110, ty113, ty119, ty129, eqT, cellInts, bld, partOk, nilAV, bytesOf, regS_ite, pickAV_bool, nn1, tn1, nz1, nz1', lt1, sub, slotsLe, rngS_normal, rngS_exit, rngS_ret, Bool.cond_true, Bool.cond_false, ints, intss, int, bool, row, frac, fracs, ← List.map_take, ← List.map_drop, ints]
  refine awp_range (live := [true, true, false, false, true, true, false, true, true, true, false, false, false, false, false, false, true]) (ctx_ok eqOk hG) mixed [true, true, false, false, false, false, false, true, true] (xs.length) (fun k => posFrom v (xs.drop k) k = r) (fun k => ⟨[ints nl xs, int v, .junk, .junk, .junk, .junk, .junk, int xs.length, int k, .junk, .junk, .junk, .junk, .junk, .junk, .junk, .junk, .junk, .junk], []⟩) ?_ (by simp [sub, slotsLe, clean, keep, refsL, refs, once, place, renL, ren, List.replicate, int, bool, ints]) ?_ ?_ ?_
  · exact hlens.1.1.1
  · simpa [pos] using hr
  · intro k h hp hw
    rw [drop_get h, posFrom] at hp
    by_cases e : xs[k] = v
    · rw [if_pos e] at hp; subst hp
      simp [awp_skip, awp_seq, awp_block, awp_exit, awp_ret, awp_loop, awp_region, awp_cond, contS_normal, contS_exit, contS_ret, inB_normal, inB_exit, inB_ret, loopS_normal, loopS_exit, loopS_ret, doneS_normal, doneS_ret, regS_some, condS_bool, bindS_some, rrun_nil, rrun_cons, outD_some, stepG_some, rstep_eq, callOut_some, callOut_none, mutCall_none, movCall_none, frzCall_none, frzCall_some, alt_none, alt_some, regrun_false, regrun_true, noLd_dt, mkLd_dt, dtGet, rdraw_eq, rrunD_nil, rrunD_cons, contD_eq, rstepD_eq, outDr_some, outC_zero, outC_succ, needs, chk, stR, opR, jk, jkL, meets, shf, nums, sets, Op.operands, Call.operands, noM_mk, callV_fn, aop_call, take_map_all, guardOk, aop, ev, putD, ofV, ofV1, Value.oneCell', asNat, abin, aun, pickAV, scal, frz, TypeDesc.aggB, AV.cells, lenAV, getAt, loadCell, loadCells, res, resL, intern, internL, putCells, ownR, ownRL, ownV, drops, flat, kill, killL, killN, killNL, clean, keep, refsL, refs, once, place, renL, ren, ctx, G, resOk, resVars, resVar, ownR, ownRL, pack, viewEs, bndOf, appX, appY, List.range, List.range.loop, ty2, ty3, ty4, ty5, ty9, ty12, ty21, ty22, ty23, ty28, ty33, ty44, ty50, ty61, ty72, ty73, ty83, ty89, ty106, ty110, ty113, ty119, ty129, eqT, cellInts, bld, partOk, nilAV, bytesOf, regS_ite, pickAV_bool, nn1, tn1, nz1, nz1', lt1, sub, slotsLe, rngS_normal, rngS_exit, rngS_ret, Bool.cond_true, Bool.cond_false, ints, intss, int, bool, row, frac, fracs, ← List.map_take, ← List.map_drop, h, e]
    · rw [if_neg e] at hp
      have e' : ¬ v = xs[k] := fun h => e h.symm
      simp [awp_skip, awp_seq, awp_block, awp_exit, awp_ret, awp_loop, awp_region, awp_cond, contS_normal, contS_exit, contS_ret, inB_normal, inB_exit, inB_ret, loopS_normal, loopS_exit, loopS_ret, doneS_normal, doneS_ret, regS_some, condS_bool, bindS_some, rrun_nil, rrun_cons, outD_some, stepG_some, rstep_eq, callOut_some, callOut_none, mutCall_none, movCall_none, frzCall_none, frzCall_some, alt_none, alt_some, regrun_false, regrun_true, noLd_dt, mkLd_dt, dtGet, rdraw_eq, rrunD_nil, rrunD_cons, contD_eq, rstepD_eq, outDr_some, outC_zero, outC_succ, needs, chk, stR, opR, jk, jkL, meets, shf, nums, sets, Op.operands, Call.operands, noM_mk, callV_fn, aop_call, take_map_all, guardOk, aop, ev, putD, ofV, ofV1, Value.oneCell', asNat, abin, aun, pickAV, scal, frz, TypeDesc.aggB, AV.cells, lenAV, getAt, loadCell, loadCells, res, resL, intern, internL, putCells, ownR, ownRL, ownV, drops, flat, kill, killL, killN, killNL, clean, keep, refsL, refs, once, place, renL, ren, ctx, G, resOk, resVars, resVar, ownR, ownRL, pack, viewEs, bndOf, appX, appY, List.range, List.range.loop, ty2, ty3, ty4, ty5, ty9, ty12, ty21, ty22, ty23, ty28, ty33, ty44, ty50, ty61, ty72, ty73, ty83, ty89, ty106, ty110, ty113, ty119, ty129, eqT, cellInts, bld, partOk, nilAV, bytesOf, regS_ite, pickAV_bool, nn1, tn1, nz1, nz1', lt1, sub, slotsLe, rngS_normal, rngS_exit, rngS_ret, Bool.cond_true, Bool.cond_false, ints, intss, int, bool, row, frac, fracs, ← List.map_take, ← List.map_drop, h, hw, hp, e']
  · intro hp
    simp [posFrom] at hp; subst hp
    simp [awp_skip, awp_seq, awp_block, awp_exit, awp_ret, awp_loop, awp_region, awp_cond, contS_normal, contS_exit, contS_ret, inB_normal, inB_exit, inB_ret, loopS_normal, loopS_exit, loopS_ret, doneS_normal, doneS_ret, regS_some, condS_bool, bindS_some, rrun_nil, rrun_cons, outD_some, stepG_some, rstep_eq, callOut_some, callOut_none, mutCall_none, movCall_none, frzCall_none, frzCall_some, alt_none, alt_some, regrun_false, regrun_true, noLd_dt, mkLd_dt, dtGet, rdraw_eq, rrunD_nil, rrunD_cons, contD_eq, rstepD_eq, outDr_some, outC_zero, outC_succ, needs, chk, stR, opR, jk, jkL, meets, shf, nums, sets, Op.operands, Call.operands, noM_mk, callV_fn, aop_call, take_map_all, guardOk, aop, ev, putD, ofV, ofV1, Value.oneCell', asNat, abin, aun, pickAV, scal, frz, TypeDesc.aggB, AV.cells, lenAV, getAt, loadCell, loadCells, res, resL, intern, internL, putCells, ownR, ownRL, ownV, drops, flat, kill, killL, killN, killNL, clean, keep, refsL, refs, once, place, renL, ren, ctx, G, resOk, resVars, resVar, ownR, ownRL, pack, viewEs, bndOf, appX, appY, List.range, List.range.loop, ty2, ty3, ty4, ty5, ty9, ty12, ty21, ty22, ty23, ty28, ty33, ty44, ty50, ty61, ty72, ty73, ty83, ty89, ty106, ty110, ty113, ty119, ty129, eqT, cellInts, bld, partOk, nilAV, bytesOf, regS_ite, pickAV_bool, nn1, tn1, nz1, nz1', lt1, sub, slotsLe, rngS_normal, rngS_exit, rngS_ret, Bool.cond_true, Bool.cond_false, ints, intss, int, bool, row, frac, fracs, ← List.map_take, ← List.map_drop]

end Go.Proofs.Ytbiefpodcenpoaa.Ax
