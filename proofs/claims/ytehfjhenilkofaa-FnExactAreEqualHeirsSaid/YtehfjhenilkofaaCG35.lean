/-
  Contracts: AreEqualHeirs (both programs). No condition.
-/
import Derived.Test.YtehfjhenilkofaaCG34
namespace Go.Proofs.Ytehfjhenilkofaa.Ax
open Go Go.RowKit
set_option linter.unusedSimpArgs false

def equalHB (xss : List (Bool × List Int)) (fs : List (Int × Int)) : Bool := (heirF xss fs 0).2 && (heirF xss fs 1).2 && decide ((heirF xss fs 0).1 = (heirF xss fs 1).1)

noncomputable def mEqualH : List AV → Option AV := mk (fun _ => True) (fun (p : (Bool) × (List (Bool × List Int)) × (Bool) × (List (Int × Int))) => [intss p.1 p.2.1, fracs p.2.2.1 p.2.2.2]) (fun p => bool (equalHB p.2.1 p.2.2.2))
theorem mEqualH_at (nl : Bool) (xss : List (Bool × List Int)) (nl' : Bool) (fs : List (Int × Int)) : mEqualH [.sl nl 1 (xss.map row), .sl nl' 2 (fs.map frac)] = some (.v (.bool (equalHB xss fs))) :=
  mk_eq (enc := fun (p : (Bool) × (List (Bool × List Int)) × (Bool) × (List (Int × Int))) => [intss p.1 p.2.1, fracs p.2.2.1 p.2.2.2]) (x := (nl, xss, nl', fs)) (by rintro ⟨a0, a1, a2, a3⟩ ⟨b0, b1, b2, b3⟩ h; simp [ints, intss, int, bool, row, frac, fracs, map_int_inj, map_row_inj, frac_inj, map_frac_inj] at h; simp [h]) trivial

set_option maxHeartbeats 1000000 in
theorem implEqualH_ok : FnOk Try.prog 31 mEqualH := by
  refine mk_ok fun ⟨nl, xss, nl', fs⟩ _ => ?_
  have hG : FnsOk Try.prog [(28, mHeir)] := (.cons implHeir_ok .nil)
  refine callOk_awp (ctx_ok eqOk hG) mixed (live := [true, true, false, false, true, true, true, true, true]) (dt := []) Try.func31 rfl (by kernel_rfl) (by kernel_rfl) fun w0 hlens => ?_
  clear hlens
  have a0 := mHeir_at nl xss nl' fs 0
  have a1 := mHeir_at nl xss nl' fs 1
  unfold equalHB
  generalize heirF xss fs 0 = p at *
  generalize heirF xss fs 1 = q at *
  obtain ⟨⟨p1, p2⟩, pb⟩ := p
  obtain ⟨⟨q1, q2⟩, qb⟩ := q
  simp only at a0 a1
  cases pb <;> cases qb <;> simp (config := {contextual := true}) [Try.f31, awp_skip, awp_seq, awp_block, awp_exit, awp_ret, awp_loop, awp_region, awp_cond, contS_normal, contS_exit, contS_ret, inB_normal, inB_exit, inB_ret, loopS_normal, loopS_exit, loopS_ret, doneS_normal, doneS_ret, regS_some, condS_bool, bindS_some, rrun_nil, rrun_cons, outD_some, stepG_some, rstep_eq, callOut_some, callOut_none, mutCall_none, movCall_none, alt_none, alt_some, regrun_false, regrun_true, noLd_dt, mkLd_dt, dtGet, rdraw_eq, rrunD_nil, rrunD_cons, contD_eq, rstepD_eq, outDr_some, outC_zero, outC_succ, needs, chk, stR, opR, jk, jkL, meets, shf, nums, sets, Op.operands, Call.operands, noM_mk, callV_fn, aop_call, take_map_all, guardOk, aop, ev, putD, ofV, ofV1, Value.oneCell', asNat, abin, aun, pickAV, scal, frz, TypeDesc.aggB, AV.cells, lenAV, getAt, loadCell, loadCells, res, resL, intern, internL, putCells, ownR, ownRL, ownV, drops, flat, kill, killL, killN, killNL, clean, keep, refsL, refs, once, place, renL, ren, ctx, G, resOk, resVars, resVar, ownR, ownRL, pack, viewEs, bndOf, appX, appY, List.range, List.range.loop, ty2, ty3, ty4, ty5, ty9, ty12, ty21, ty22, ty23, ty28, ty33, ty38, ty39, ty49, ty52, ty64, ty80, ty93, ty103, ty107, ty110, ty116, ty126, eqT, cellInts, bld, partOk, regS_ite, pickAV_bool, nn1, tn1, nz1, nz1', lt1, sub, slotsLe, rngS_normal, rngS_exit, rngS_ret, Bool.cond_true, Bool.cond_false, ints, intss, int, bool, row, frac, fracs, ← List.map_take, ← List.map_drop, a0, a1]

set_option maxHeartbeats 1000000 in
theorem specEqualH_ok : FnOk Try.prog 30 mEqualH := by
  refine mk_ok fun ⟨nl, xss, nl', fs⟩ _ => ?_
  have hG : FnsOk Try.prog [(27, mHeir)] := (.cons specHeir_ok .nil)
  refine callOk_awp (ctx_ok eqOk hG) mixed (live := [true, true, false, false, true, true, true, true, true]) (dt := []) Try.func30 rfl (by kernel_rfl) (by kernel_rfl) fun w0 hlens => ?_
  clear hlens
  have a0 := mHeir_at nl xss nl' fs 0
  have a1 := mHeir_at nl xss nl' fs 1
  unfold equalHB
  generalize heirF xss fs 0 = p at *
  generalize heirF xss fs 1 = q at *
  obtain ⟨⟨p1, p2⟩, pb⟩ := p
  obtain ⟨⟨q1, q2⟩, qb⟩ := q
  simp only at a0 a1
  cases pb <;> cases qb <;> simp (config := {contextual := true}) [Try.f30, awp_skip, awp_seq, awp_block, awp_exit, awp_ret, awp_loop, awp_region, awp_cond, contS_normal, contS_exit, contS_ret, inB_normal, inB_exit, inB_ret, loopS_normal, loopS_exit, loopS_ret, doneS_normal, doneS_ret, regS_some, condS_bool, bindS_some, rrun_nil, rrun_cons, outD_some, stepG_some, rstep_eq, callOut_some, callOut_none, mutCall_none, movCall_none, alt_none, alt_some, regrun_false, regrun_true, noLd_dt, mkLd_dt, dtGet, rdraw_eq, rrunD_nil, rrunD_cons, contD_eq, rstepD_eq, outDr_some, outC_zero, outC_succ, needs, chk, stR, opR, jk, jkL, meets, shf, nums, sets, Op.operands, Call.operands, noM_mk, callV_fn, aop_call, take_map_all, guardOk, aop, ev, putD, ofV, ofV1, Value.oneCell', asNat, abin, aun, pickAV, scal, frz, TypeDesc.aggB, AV.cells, lenAV, getAt, loadCell, loadCells, res, resL, intern, internL, putCells, ownR, ownRL, ownV, drops, flat, kill, killL, killN, killNL, clean, keep, refsL, refs, once, place, renL, ren, ctx, G, resOk, resVars, resVar, ownR, ownRL, pack, viewEs, bndOf, appX, appY, List.range, List.range.loop, ty2, ty3, ty4, ty5, ty9, ty12, ty21, ty22, ty23, ty28, ty33, ty38, ty39, ty49, ty52, ty64, ty80, ty93, ty103, ty107, ty110, ty116, ty126, eqT, cellInts, bld, partOk, regS_ite, pickAV_bool, nn1, tn1, nz1, nz1', lt1, sub, slotsLe, rngS_normal, rngS_exit, rngS_ret, Bool.cond_true, Bool.cond_false, ints, intss, int, bool, row, frac, fracs, ← List.map_take, ← List.map_drop, a0, a1]

end Go.Proofs.Ytehfjhenilkofaa.Ax
