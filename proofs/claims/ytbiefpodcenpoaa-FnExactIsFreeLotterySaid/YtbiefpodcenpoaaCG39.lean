/-
  Contracts: IsBetterLottery (both programs). No condition.
-/
import Derived.Test.YtbiefpodcenpoaaCG38
import Derived.Test.YtbiefpodcenpoaaCG8
namespace Go.Proofs.Ytbiefpodcenpoaa.Ax
open Go Go.RowKit
set_option linter.unusedSimpArgs false

/-- The chances in the order of a list. -/
def inOrder (l : List Int) (a : List (Int × Int)) : List (Int × Int) := l.map fun i => a.getD i.toNat (0, 0)
theorem inOrder_len {l : List Int} {a : List (Int × Int)} : (inOrder l a).length = l.length := by simp [inOrder]
theorem inOrder_at {l : List Int} {a : List (Int × Int)} {k : Nat} (h : k < l.length) (hi : l[k].toNat < a.length) : (inOrder l a).getD k (0, 0) = a[l[k].toNat] := by
  simp [inOrder, List.getD_eq_getElem?_getD, h, hi]
theorem sumTo_take {fs : List (Int × Int)} {j : Nat} : ∀ {k : Nat}, k ≤ j → sumTo (fs.take j) k = sumTo fs k
  | 0, _ => rfl
  | k + 1, h => by
    rw [sumTo, sumTo, sumTo_take (by omega)]
    have : (fs.take j).getD k (0, 0) = fs.getD k (0, 0) := by
      rw [List.getD_eq_getElem?_getD, List.getD_eq_getElem?_getD, List.getElem?_take, if_pos (by omega)]
    rw [this]

def betAt (l : List Int) (a b : List (Int × Int)) (k : Nat) : Bool := (sumTo (inOrder l a) (k + 1)).2 && (sumTo (inOrder l b) (k + 1)).2 && !decide (cmpF (sumTo (inOrder l a) (k + 1)).1 (sumTo (inOrder l b) (k + 1)).1 = -1)
def betB (l : List Int) (a b : List (Int × Int)) : Bool := rankB l.length l && decide (l.length ≤ 4) && decide (a.length = l.length) && decide (b.length = l.length) && allR l.length (betAt l a b)

noncomputable def mBet : List AV → Option AV := mk (fun _ => True) (fun (p : (Bool) × (List Int) × (Bool) × (List (Int × Int)) × (Bool) × (List (Int × Int))) => [ints p.1 p.2.1, fracs p.2.2.1 p.2.2.2.1, fracs p.2.2.2.2.1 p.2.2.2.2.2]) (fun p => bool (betB p.2.1 p.2.2.2.1 p.2.2.2.2.2))
theorem mBet_at (nl : Bool) (l : List Int) (nl1 : Bool) (a : List (Int × Int)) (nl2 : Bool) (b : List (Int × Int)) : mBet [.sl nl 1 (l.map int), .sl nl1 2 (a.map frac), .sl nl2 2 (b.map frac)] = some (.v (.bool (betB l a b))) :=
  mk_eq (enc := fun (p : (Bool) × (List Int) × (Bool) × (List (Int × Int)) × (Bool) × (List (Int × Int))) => [ints p.1 p.2.1, fracs p.2.2.1 p.2.2.2.1, fracs p.2.2.2.2.1 p.2.2.2.2.2]) (x := (nl, l, nl1, a, nl2, b)) (by rintro ⟨a0, a1, a2, a3, a4, a5⟩ ⟨b0, b1, b2, b3, b4, b5⟩ h; simp [ints, intss, int, bool, row, frac, fracs, map_int_inj, map_row_inj, frac_inj, map_frac_inj] at h; simp [h]) trivial

/-- Two lists that are nil until something is put into them. -/
def apA2 : Nat → AV
  | 0 => .sl true 1 []
  | k + 1 => .ref 0 [] 0 (k + 1)
def apB2 : Nat → AV
  | 0 => .sl true 1 []
  | k + 1 => .ref 1 [] 0 (k + 1)
def apT2 (l l' : List AV) : Nat → List Tok
  | 0 => []
  | _ + 1 => [⟨true, .sl false 2 l⟩, ⟨true, .sl false 2 l'⟩]

theorem take_snoc {fs : List (Int × Int)} {k : Nat} (h : k < fs.length) : (fs.take k).map frac ++ [frac fs[k]] = (fs.take (k + 1)).map frac := by
  rw [List.take_succ_eq_append_getElem h, List.map_append]; rfl

theorem sumF_take {fs : List (Int × Int)} {k : Nat} (h : k ≤ fs.length) (h2 : k ≤ 100) : sumF (fs.take k) = sumTo fs k := by
  unfold sumF
  rw [if_neg (by simp; omega)]
  rw [show (fs.take k).length = k by simp; omega, sumTo_take (Nat.le_refl _)]

theorem sumTo_succ {fs : List (Int × Int)} {k : Nat} (h : (sumTo fs k).2 = true) : sumTo fs (k + 1) = addF (sumTo fs k).1 (fs.getD k (0, 0)) := by rw [sumTo, if_pos h]
theorem sumTo_all {fs : List (Int × Int)} {n : Nat} (h : (sumTo fs n).2 = true) : ∀ k, k < n → fracOk (fs.getD k (0, 0)) = true ∧ (sumTo fs k).2 = true := by
  induction n with
  | zero => intro k hk; omega
  | succ n ih =>
    have hn : (sumTo fs n).2 = true := by
      rw [sumTo] at h
      split at h
      · assumption
      · simp at h
    intro k hk
    by_cases e : k = n
    · subst e
      rw [sumTo_succ hn] at h
      exact ⟨(addF_frac h).2.2, hn⟩
    · exact ih hn k (by omega)

set_option maxRecDepth 4000 in
set_option maxHeartbeats 8000000 in
theorem implBet_ok : FnOk Try.prog 62 mBet := by
  refine mk_ok fun ⟨nl, l, nl1, a, nl2, b⟩ _ => ?_
  have hG : FnsOk Try.prog [(70, mWithin), (109, mRank), (110, mSumF), (111, mLessF)] := (.cons within_ok (.cons implRankingOk_ok (.cons implSumF_ok (.cons less_ok .nil))))
  refine callOk_awp (ctx_ok eqOk hG) mixed (live := [true, true, true, false, false, false, true, true, true, true, false, true, true, true, true, true, false, false, false, false, false, false, false, false, false, false, false, false, false, false, false, false, false, false, false, false, false, false, true, true, true, true, true, false, false, false, false, false, false, false, false, false, false, false, false, false, false, false, false, false, false, false, false, false, false, false, false, false, false, false, false, false, false, false, false, false, false, false, false, true]) (dt := [(8, ⟨[(0, 5), (5, 7), (6, 7), (5, 8), (6, 8), (5, 9), (6, 9), (5, 10), (6, 10), (5, 11), (6, 11), (0, 12), (1, 12), (2, 12), (3, 12), (4, 12), (5, 12), (6, 12), (7, 12)], [0, 0, 0, 0, 0, 1, 1, 0, 0, 0, 0, 0, 1, 1], []⟩)]) Try.func62 rfl (by kernel_rfl) (by kernel_rfl) fun w0 hlens => ?_
  clear hlens
  cases h1 : rankB l.length l with
  | false =>
    cases h0 : inR 1 4 l.length <;> simp (config := {contextual := true}) [Try.f62, awp_skip, awp_seq, awp_block, awp_exit, awp_ret, awp_loop, awp_region, awp_cond, contS_normal, contS_exit, contS_ret, inB_normal, inB_exit, inB_ret, loopS_normal, loopS_exit, loopS_ret, doneS_normal, doneS_ret, regS_some, condS_bool, bindS_some, rrun_nil, rrun_cons, outD_some, stepG_some, rstep_eq, callOut_some, callOut_none, mutCall_none, movCall_none, frzCall_none, frzCall_some, alt_none, alt_some, regrun_false, regrun_true, noLd_dt, mkLd_dt, dtGet, rdraw_eq, rrunD_nil, rrunD_cons, contD_eq, rstepD_eq, outDr_some, outC_zero, outC_succ, needs, chk, stR, opR, jk, jkL, meets, shf, nums, sets, Op.operands, Call.operands, noM_mk, callV_fn, aop_call, take_map_all, guardOk, aop, ev, putD, ofV, ofV1, Value.oneCell', asNat, abin, aun, pickAV, scal, frz, TypeDesc.aggB, AV.cells, lenAV, getAt, loadCell, loadCells, res, resL, intern, internL, putCells, ownR, ownRL, ownV, drops, flat, kill, killL, killN, killNL, clean, keep, refsL, refs, once, place, renL, ren, ctx, G, resOk, resVars, resVar, ownR, ownRL, pack, viewEs, bndOf, appX, appY, List.range, List.range.loop, ty2, ty3, ty4, ty5, ty9, ty12, ty21, ty22, ty23, ty28, ty33, ty44, ty50, ty61, ty72, ty73, ty83, ty89, ty106, ty110, ty113, ty119, ty129, eqT, cellInts, bld, partOk, nilAV, bytesOf, regS_ite, pickAV_bool, nn1, tn1, nz1, nz1', lt1, sub, slotsLe, rngS_normal, rngS_exit, rngS_ret, Bool.cond_true, Bool.cond_false, ints, intss, int, bool, row, frac, fracs, ← List.map_take, ← List.map_drop, mWithin_in, mRank_at, h0, h1, betB]
  | true =>
  obtain ⟨n1, n2, _, hin, _⟩ := rank_facts h1
  cases h0 : inR 1 4 l.length with
  | false =>
    have : ¬ l.length ≤ 4 := by simp [inR] at h0; omega
    simp (config := {contextual := true}) [Try.f62, awp_skip, awp_seq, awp_block, awp_exit, awp_ret, awp_loop, awp_region, awp_cond, contS_normal, contS_exit, contS_ret, inB_normal, inB_exit, inB_ret, loopS_normal, loopS_exit, loopS_ret, doneS_normal, doneS_ret, regS_some, condS_bool, bindS_some, rrun_nil, rrun_cons, outD_some, stepG_some, rstep_eq, callOut_some, callOut_none, mutCall_none, movCall_none, frzCall_none, frzCall_some, alt_none, alt_some, regrun_false, regrun_true, noLd_dt, mkLd_dt, dtGet, rdraw_eq, rrunD_nil, rrunD_cons, contD_eq, rstepD_eq, outDr_some, outC_zero, outC_succ, needs, chk, stR, opR, jk, jkL, meets, shf, nums, sets, Op.operands, Call.operands, noM_mk, callV_fn, aop_call, take_map_all, guardOk, aop, ev, putD, ofV, ofV1, Value.oneCell', asNat, abin, aun, pickAV, scal, frz, TypeDesc.aggB, AV.cells, lenAV, getAt, loadCell, loadCells, res, resL, intern, internL, putCells, ownR, ownRL, ownV, drops, flat, kill, killL, killN, killNL, clean, keep, refsL, refs, once, place, renL, ren, ctx, G, resOk, resVars, resVar, ownR, ownRL, pack, viewEs, bndOf, appX, appY, List.range, List.range.loop, ty2, ty3, ty4, ty5, ty9, ty12, ty21, ty22, ty23, ty28, ty33, ty44, ty50, ty61, ty72, ty73, ty83, ty89, ty106, ty110, ty113, ty119, ty129, eqT, cellInts, bld, partOk, nilAV, bytesOf, regS_ite, pickAV_bool, nn1, tn1, nz1, nz1', lt1, sub, slotsLe, rngS_normal, rngS_exit, rngS_ret, Bool.cond_true, Bool.cond_false, ints, intss, int, bool, row, frac, fracs, ← List.map_take, ← List.map_drop, mWithin_in, mRank_at, h0, h1, betB, this]
  | true =>
  have h4 : l.length ≤ 4 := by simp [inR] at h0; omega
  by_cases h2 : a.length = l.length
  rotate_left
  · have h2' : ((a.length : Int) != (l.length : Int)) = true := by simp; omega
    simp (config := {contextual := true}) [Try.f62, awp_skip, awp_seq, awp_block, awp_exit, awp_ret, awp_loop, awp_region, awp_cond, contS_normal, contS_exit, contS_ret, inB_normal, inB_exit, inB_ret, loopS_normal, loopS_exit, loopS_ret, doneS_normal, doneS_ret, regS_some, condS_bool, bindS_some, rrun_nil, rrun_cons, outD_some, stepG_some, rstep_eq, callOut_some, callOut_none, mutCall_none, movCall_none, frzCall_none, frzCall_some, alt_none, alt_some, regrun_false, regrun_true, noLd_dt, mkLd_dt, dtGet, rdraw_eq, rrunD_nil, rrunD_cons, contD_eq, rstepD_eq, outDr_some, outC_zero, outC_succ, needs, chk, stR, opR, jk, jkL, meets, shf, nums, sets, Op.operands, Call.operands, noM_mk, callV_fn, aop_call, take_map_all, guardOk, aop, ev, putD, ofV, ofV1, Value.oneCell', asNat, abin, aun, pickAV, scal, frz, TypeDesc.aggB, AV.cells, lenAV, getAt, loadCell, loadCells, res, resL, intern, internL, putCells, ownR, ownRL, ownV, drops, flat, kill, killL, killN, killNL, clean, keep, refsL, refs, once, place, renL, ren, ctx, G, resOk, resVars, resVar, ownR, ownRL, pack, viewEs, bndOf, appX, appY, List.range, List.range.loop, ty2, ty3, ty4, ty5, ty9, ty12, ty21, ty22, ty23, ty28, ty33, ty44, ty50, ty61, ty72, ty73, ty83, ty89, ty106, ty110, ty113, ty119, ty129, eqT, cellInts, bld, partOk, nilAV, bytesOf, regS_ite, pickAV_bool, nn1, tn1, nz1, nz1', lt1, sub, slotsLe, rngS_normal, rngS_exit, rngS_ret, Bool.cond_true, Bool.cond_false, ints, intss, int, bool, row, frac, fracs, ← List.map_take, ← List.map_drop, mWithin_in, mRank_at, h0, h1, betB, h2, h2']
  by_cases h3 : b.length = l.length
  rotate_left
  · have h3' : ((b.length : Int) != (l.length : Int)) = true := by simp; omega
    simp (config := {contextual := true}) [Try.f62, awp_skip, awp_seq, awp_block, awp_exit, awp_ret, awp_loop, awp_region, awp_cond, contS_normal, contS_exit, contS_ret, inB_normal, inB_exit, inB_ret, loopS_normal, loopS_exit, loopS_ret, doneS_normal, doneS_ret, regS_some, condS_bool, bindS_some, rrun_nil, rrun_cons, outD_some, stepG_some, rstep_eq, callOut_some, callOut_none, mutCall_none, movCall_none, frzCall_none, frzCall_some, alt_none, alt_some, regrun_false, regrun_true, noLd_dt, mkLd_dt, dtGet, rdraw_eq, rrunD_nil, rrunD_cons, contD_eq, rstepD_eq, outDr_some, outC_zero, outC_succ, needs, chk, stR, opR, jk, jkL, meets, shf, nums, sets, Op.operands, Call.operands, noM_mk, callV_fn, aop_call, take_map_all, guardOk, aop, ev, putD, ofV, ofV1, Value.oneCell', asNat, abin, aun, pickAV, scal, frz, TypeDesc.aggB, AV.cells, lenAV, getAt, loadCell, loadCells, res, resL, intern, internL, putCells, ownR, ownRL, ownV, drops, flat, kill, killL, killN, killNL, clean, keep, refsL, refs, once, place, renL, ren, ctx, G, resOk, resVars, resVar, ownR, ownRL, pack, viewEs, bndOf, appX, appY, List.range, List.range.loop, ty2, ty3, ty4, ty5, ty9, ty12, ty21, ty22, ty23, ty28, ty33, ty44, ty50, ty61, ty72, ty73, ty83, ty89, ty106, ty110, ty113, ty119, ty129, eqT, cellInts, bld, partOk, nilAV, bytesOf, regS_ite, pickAV_bool, nn1, tn1, nz1, nz1', lt1, sub, slotsLe, rngS_normal, rngS_exit, rngS_ret, Bool.cond_true, Bool.cond_false, ints, intss, int, bool, row, frac, fracs, ← List.map_take, ← List.map_drop, mWithin_in, mRank_at, h0, h1, betB, h2, h3, h3']
  have hm : betB l a b = allR l.length (betAt l a b) := by simp [betB, h1, h2, h3, h4]
  generalize hres : betB l a b = r at hm
  have e2 : (a.length : Int) = l.length := by omega
  have e3 : (b.length : Int) = l.length := by omega
  simp (config := {contextual := true}) [Try.f62, awp_skip, awp_seq, awp_block, awp_exit, awp_ret, awp_loop, awp_region, awp_cond, contS_normal, contS_exit, contS_ret, inB_normal, inB_exit, inB_ret, loopS_normal, loopS_exit, loopS_ret, doneS_normal, doneS_ret, regS_some, condS_bool, bindS_some, rrun_nil, rrun_cons, outD_some, stepG_some, rstep_eq, callOut_some, callOut_none, mutCall_none, movCall_none, frzCall_none, frzCall_some, alt_none, alt_some, regrun_false, regrun_true, noLd_dt, mkLd_dt, dtGet, rdraw_eq, rrunD_nil, rrunD_cons, contD_eq, rstepD_eq, outDr_some, outC_zero, outC_succ, needs, chk, stR, opR, jk, jkL, meets, shf, nums, sets, Op.operands, Call.operands, noM_mk, callV_fn, aop_call, take_map_all, guardOk, aop, ev, putD, ofV, ofV1, Value.oneCell', asNat, abin, aun, pickAV, scal, frz, TypeDesc.aggB, AV.cells, lenAV, getAt, loadCell, loadCells, res, resL, intern, internL, putCells, ownR, ownRL, ownV, drops, flat, kill, killL, killN, killNL, clean, keep, refsL, refs, once, place, renL, ren, ctx, G, resOk, resVars, resVar, ownR, ownRL, pack, viewEs, bndOf, appX, appY, List.range, List.range.loop, ty2, ty3, ty4, ty5, ty9, ty12, ty21, ty22, ty23, ty28, ty33, ty44, ty50, ty61, ty72, ty73, ty83, ty89, ty106, ty110, ty113, ty119, ty129, eqT, cellInts, bld, partOk, nilAV, bytesOf, regS_ite, pickAV_bool, nn1, tn1, nz1, nz1', lt1, sub, slotsLe, rngS_normal, rngS_exit, rngS_ret, Bool.cond_true, Bool.cond_false, ints, intss, int, bool, row, frac, fracs, ← List.map_take, ← List.map_drop, mWithin_in, mRank_at, h0, h1, e2, e3]
  refine awp_range (live := [true, true, true, false, false, false, true, true, true, true, false, true, true, true, true, true, false, false, false, false, false, false, false, false, false, false, false, false, false, false, false, false, false, false, false, false, false, false, true, true, true, true, true, false, false, false, false, false, false, false, false, false, false, false, false, false, false, false, false, false, false, false, false, false, false, false, false, false, false, false, false, false, false, false, false, false, false, false, false, true]) (ctx_ok eqOk hG) mixed [false, true, true, false, false, false, false, false, true, true, false, false, false, false, false, false, false, false, false, false, false, false, false, false, false, false, false, false, false, false, false, false, false, false, false, false, false, false, false, true, true, true] (l.length) (fun k => upto (betAt l a b) k) (fun k => ⟨[.junk, fracs nl1 a, fracs nl2 b, .junk, .junk, .junk, .junk, .junk, apA2 k, apB2 k, .junk, .junk, .junk, .junk, .junk, .junk, .junk, .junk, .junk, .junk, .junk, .junk, .junk, .junk, .junk, .junk, .junk, .junk, .junk, .junk, .junk, .junk, .junk, .junk, .junk, .junk, .junk, .junk, .junk, ints nl l, int l.length, int k, .junk, .junk, .junk, .junk, .junk, .junk, .junk, .junk, .junk, .junk, .junk, .junk, .junk, .junk, .junk, .junk, .junk, .junk, .junk, .junk, .junk, .junk, .junk, .junk, .junk, .junk, .junk, .junk, .junk, .junk, .junk, .junk, .junk, .junk, .junk, .junk, .junk, .junk, .junk], apT2 (((inOrder l a).take k).map frac) (((inOrder l b).take k).map frac) k⟩) ?_ (by simp [sub, slotsLe, clean, keep, refsL, refs, once, place, renL, ren, List.replicate, int, bool, ints, fracs, apA2, apB2, apT2]) ?_ ?_ ?_
  · omega
  · exact upto_zero
  · intro k h hp hwk
    have hf : betAt l a b k = false → r = false := fun hf => by rw [hm, allR_no h hf]
    have ht := upto_succ hp
    have i0 := (hin k h).1
    have i1 := (hin k h).2
    have ia : l[k].toNat < a.length := by omega
    have ib : l[k].toNat < b.length := by omega
    have ka : k < (inOrder l a).length := by rw [inOrder_len]; exact h
    have kb : k < (inOrder l b).length := by rw [inOrder_len]; exact h
    have ta := take_snoc ka
    have tb := take_snoc kb
    have ga : (inOrder l a)[k] = a[l[k].toNat] := by have := inOrder_at h ia; rwa [List.getD_eq_getElem?_getD, List.getElem?_eq_getElem ka] at this
    have gb : (inOrder l b)[k] = b[l[k].toNat] := by have := inOrder_at h ib; rwa [List.getD_eq_getElem?_getD, List.getElem?_eq_getElem kb] at this
    rw [ga] at ta
    rw [gb] at tb
    have sa := mSumF_at false ((inOrder l a).take (k + 1))
    have sb := mSumF_at false ((inOrder l b).take (k + 1))
    rw [sumF_take (by omega) (by omega)] at sa sb
    have la : ((inOrder l a).take k).length = k := by simp; omega
    have lb : ((inOrder l b).take k).length = k := by simp; omega
    have la' : ((inOrder l a).take (k + 1)).length = k + 1 := by simp; omega
    have lb' : ((inOrder l b).take (k + 1)).length = k + 1 := by simp; omega
    have hb0 : betAt l a b k = ((sumTo (inOrder l a) (k + 1)).2 && (sumTo (inOrder l b) (k + 1)).2 && !decide (cmpF (sumTo (inOrder l a) (k + 1)).1 (sumTo (inOrder l b) (k + 1)).1 = -1)) := rfl
    rw [hb0] at hf ht
    clear hb0
    simp only [frac] at ta tb
    generalize sumTo (inOrder l a) (k + 1) = u at *
    generalize sumTo (inOrder l b) (k + 1) = v at *
    obtain ⟨⟨u1, u2⟩, ub⟩ := u
    obtain ⟨⟨v1, v2⟩, vb⟩ := v
    simp only at sa sb hf ht
    have hle := mLessF_at u1 u2 v1 v2
    generalize decide (cmpF (u1, u2) (v1, v2) = -1) = c at *
    generalize (inOrder l a).take (k + 1) = A' at *
    generalize (inOrder l b).take (k + 1) = B' at *
    generalize hA : (inOrder l a).take k = A at *
    generalize hB : (inOrder l b).take k = B at *
    have q1 : (k + 1) * 16 ≤ 140737488355328 := by omega
    have q2 : k + 1 ≤ 4611686018427387904 := by omega
    cases k with
    | zero =>
      have hA0 : A = [] := List.length_eq_zero_iff.1 la
      have hB0 : B = [] := List.length_eq_zero_iff.1 lb
      rw [hA0] at ta
      rw [hB0] at tb
      simp at ta tb hwk
      rw [← ta] at sa
      rw [← tb] at sb
      simp (config := {contextual := true, maxSteps := 1000000}) [awp_skip, awp_seq, awp_block, awp_exit, awp_ret, awp_loop, awp_region, awp_cond, contS_normal, contS_exit, contS_ret, inB_normal, inB_exit, inB_ret, loopS_normal, loopS_exit, loopS_ret, doneS_normal, doneS_ret, regS_some, condS_bool, bindS_some, rrun_nil, rrun_cons, outD_some, stepG_some, rstep_eq, callOut_some, callOut_none, mutCall_none, movCall_none, frzCall_none, frzCall_some, alt_none, alt_some, regrun_false, regrun_true, noLd_dt, mkLd_dt, dtGet, rdraw_eq, rrunD_nil, rrunD_cons, contD_eq, rstepD_eq, outDr_some, outC_zero, outC_succ, needs, chk, stR, opR, jk, jkL, meets, shf, nums, sets, Op.operands, Call.operands, noM_mk, callV_fn, aop_call, take_map_all, guardOk, aop, ev, putD, ofV, ofV1, Value.oneCell', asNat, abin, aun, pickAV, scal, frz, TypeDesc.aggB, AV.cells, lenAV, getAt, loadCell, loadCells, res, resL, intern, internL, putCells, ownR, ownRL, ownV, drops, flat, kill, killL, killN, killNL, clean, keep, refsL, refs, once, place, renL, ren, ctx, G, resOk, resVars, resVar, ownR, ownRL, pack, viewEs, bndOf, appX, appY, List.range, List.range.loop, ty2, ty3, ty4, ty5, ty9, ty12, ty21, ty22, ty23, ty28, ty33, ty44, ty50, ty61, ty72, ty73, ty83, ty89, ty106, ty110, ty113, ty119, ty129, eqT, cellInts, bld, partOk, nilAV, bytesOf, regS_ite, pickAV_bool, nn1, tn1, nz1, nz1', lt1, sub, slotsLe, rngS_normal, rngS_exit, rngS_ret, Bool.cond_true, Bool.cond_false, ints, intss, int, bool, row, frac, fracs, ← List.map_take, ← List.map_drop, h, hwk, i0, ia, ib, apA2, apB2, apT2, q1, q2, ← ta, ← tb, la', lb', sa, sb, hle]
      grind
    | succ k =>
      simp at hwk
      have ea : A'.take (k + 1 + 1) = A' := List.take_of_length_le (by omega)
      have eb : B'.take (k + 1 + 1) = B' := List.take_of_length_le (by omega)
      simp (config := {contextual := true, maxSteps := 1000000}) [awp_skip, awp_seq, awp_block, awp_exit, awp_ret, awp_loop, awp_region, awp_cond, contS_normal, contS_exit, contS_ret, inB_normal, inB_exit, inB_ret, loopS_normal, loopS_exit, loopS_ret, doneS_normal, doneS_ret, regS_some, condS_bool, bindS_some, rrun_nil, rrun_cons, outD_some, stepG_some, rstep_eq, callOut_some, callOut_none, mutCall_none, movCall_none, frzCall_none, frzCall_some, alt_none, alt_some, regrun_false, regrun_true, noLd_dt, mkLd_dt, dtGet, rdraw_eq, rrunD_nil, rrunD_cons, contD_eq, rstepD_eq, outDr_some, outC_zero, outC_succ, needs, chk, stR, opR, jk, jkL, meets, shf, nums, sets, Op.operands, Call.operands, noM_mk, callV_fn, aop_call, take_map_all, guardOk, aop, ev, putD, ofV, ofV1, Value.oneCell', asNat, abin, aun, pickAV, scal, frz, TypeDesc.aggB, AV.cells, lenAV, getAt, loadCell, loadCells, res, resL, intern, internL, putCells, ownR, ownRL, ownV, drops, flat, kill, killL, killN, killNL, clean, keep, refsL, refs, once, place, renL, ren, ctx, G, resOk, resVars, resVar, ownR, ownRL, pack, viewEs, bndOf, appX, appY, List.range, List.range.loop, ty2, ty3, ty4, ty5, ty9, ty12, ty21, ty22, ty23, ty28, ty33, ty44, ty50, ty61, ty72, ty73, ty83, ty89, ty106, ty110, ty113, ty119, ty129, eqT, cellInts, bld, partOk, nilAV, bytesOf, regS_ite, pickAV_bool, nn1, tn1, nz1, nz1', lt1, sub, slotsLe, rngS_normal, rngS_exit, rngS_ret, Bool.cond_true, Bool.cond_false, ints, intss, int, bool, row, frac, fracs, ← List.map_take, ← List.map_drop, h, hwk, ea, eb, i0, ia, ib, apA2, apB2, apT2, q1, q2, ta, tb, la, lb, la', lb', sa, sb, hle]
      grind
  · intro hp
    rw [allR_yes hp] at hm
    subst hm
    simp (config := {contextual := true}) [awp_skip, awp_seq, awp_block, awp_exit, awp_ret, awp_loop, awp_region, awp_cond, contS_normal, contS_exit, contS_ret, inB_normal, inB_exit, inB_ret, loopS_normal, loopS_exit, loopS_ret, doneS_normal, doneS_ret, regS_some, condS_bool, bindS_some, rrun_nil, rrun_cons, outD_some, stepG_some, rstep_eq, callOut_some, callOut_none, mutCall_none, movCall_none, frzCall_none, frzCall_some, alt_none, alt_some, regrun_false, regrun_true, noLd_dt, mkLd_dt, dtGet, rdraw_eq, rrunD_nil, rrunD_cons, contD_eq, rstepD_eq, outDr_some, outC_zero, outC_succ, needs, chk, stR, opR, jk, jkL, meets, shf, nums, sets, Op.operands, Call.operands, noM_mk, callV_fn, aop_call, take_map_all, guardOk, aop, ev, putD, ofV, ofV1, Value.oneCell', asNat, abin, aun, pickAV, scal, frz, TypeDesc.aggB, AV.cells, lenAV, getAt, loadCell, loadCells, res, resL, intern, internL, putCells, ownR, ownRL, ownV, drops, flat, kill, killL, killN, killNL, clean, keep, refsL, refs, once, place, renL, ren, ctx, G, resOk, resVars, resVar, ownR, ownRL, pack, viewEs, bndOf, appX, appY, List.range, List.range.loop, ty2, ty3, ty4, ty5, ty9, ty12, ty21, ty22, ty23, ty28, ty33, ty44, ty50, ty61, ty72, ty73, ty83, ty89, ty106, ty110, ty113, ty119, ty129, eqT, cellInts, bld, partOk, nilAV, bytesOf, regS_ite, pickAV_bool, nn1, tn1, nz1, nz1', lt1, sub, slotsLe, rngS_normal, rngS_exit, rngS_ret, Bool.cond_true, Bool.cond_false, ints, intss, int, bool, row, frac, fracs, ← List.map_take, ← List.map_drop]

end Go.Proofs.Ytbiefpodcenpoaa.Ax
