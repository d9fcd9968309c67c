/-
  Contracts of the two StripWorth. No condition.
-/
import Derived.Test.YtpeajmejggnpbaaF9
import Derived.Test.YtpeajmejggnpbaaF10
namespace Go.Proofs.Ytpeajmejggnpbaa.Ax
open Go Go.RowKit
set_option linter.unusedSimpArgs false

def stripW (xss : List (Bool × List Int)) (i f t : Int) : Int :=
  if rectB xss 3 10 100 = true ∧ (0 ≤ i ∧ i < xss.length) ∧ 0 ≤ f ∧ f ≤ t ∧ t ≤ (xss.getD 0 (true, [])).2.length then sumW (((xss.getD i.toNat (true, [])).2.drop f.toNat).take (t.toNat - f.toNat)) else -1

noncomputable def mStrip : List AV → Option AV := mk (fun p => small p.2.1) (fun (p : Bool × List (Bool × List Int) × Int × Int × Int) => [intss p.1 p.2.1, int p.2.2.1, int p.2.2.2.1, int p.2.2.2.2]) (fun p => int (stripW p.2.1 p.2.2.1 p.2.2.2.1 p.2.2.2.2))
theorem mStrip_at (nl : Bool) (xs : List (Bool × List Int)) (a b c : Int) (h : small xs) : mStrip [.sl nl 1 (xs.map row), .v (.int .i64 a), .v (.int .i64 b), .v (.int .i64 c)] = some (.v (.int .i64 (stripW xs a b c))) :=
  mk_eq (enc := fun (p : Bool × List (Bool × List Int) × Int × Int × Int) => [intss p.1 p.2.1, int p.2.2.1, int p.2.2.2.1, int p.2.2.2.2]) (x := (nl, xs, a, b, c)) (by rintro ⟨x, x', a, b, c⟩ ⟨y, y', d, e, f⟩ h; simp [intss, int_inj, map_row_inj] at h; simp [h]) h

theorem rect_len {xss : List (Bool × List Int)} {a b c : Int} (h : rectB xss a b c = true) : ∃ h0 : 0 < xss.length, ∀ k (hk : k < xss.length), xss[k].2.length = xss[0].2.length := by
  by_cases h0 : 0 < xss.length
  · refine ⟨h0, fun k hk => ?_⟩
    rw [rectB_eq h0] at h
    simp only [Bool.and_eq_true, List.all_eq_true] at h
    have := h.2 xss[k] (List.getElem_mem _)
    simp only [rowIs, Bool.and_eq_true, decide_eq_true_eq] at this
    exact this.1
  · rw [rectB_nil h0] at h; simp at h

set_option maxHeartbeats 2000000 in
theorem implStripWorth_ok : FnOk Try.prog 28 mStrip := by
  refine mk_ok fun ⟨nl, xss, i, f, t⟩ hp => ?_
  simp only at hp
  have hG : FnsOk Try.prog [(24, mGrid 3 10 100), (36, mWithin), (42, mSum)] := .cons implCakeOk_ok (.cons within_ok (.cons sumOf_ok .nil))
  refine callOk_of_awp (ctx_ok eqOk hG) mixed (live := [true, true, true, true, false, false, false, false, true, false, false, false, false, false, false, false, false, false, false, false, false, false, false, false, false, false, false, false, false, false, false, false, false, false, false, false, true]) Try.func28 rfl (by kernel_rfl) (by kernel_rfl) fun w0 => ?_
  have hm := mGrid_at (a := 3) (b := 10) (c := 100) nl xss hp
  have hp1 := hp.1
  have hww : IntKind.i64.wrap ((xss.length : Int) - 1) = xss.length - 1 := wrapI (by omega) (by omega)
  cases hr : rectB xss 3 10 100 with
  | false =>
    rw [hr] at hm
    have hs : stripW xss i f t = -1 := by simp [stripW, hr]
    simp [Try.f28, awp_skip, awp_seq, awp_block, awp_exit, awp_ret, awp_loop, awp_region, awp_cond, contS_normal, contS_exit, contS_ret, inB_normal, inB_exit, inB_ret, loopS_normal, loopS_exit, loopS_ret, doneS_normal, doneS_ret, regS_some, condS_bool, bindS_some, rrun_nil, rrun_cons, outD_some, stepG_some, rstep_eq, callOut_some, callV_fn, aop_call, take_map_all, guardOk, aop, ev, putD, ofV, ofV1, Value.oneCell', asNat, abin, aun, pickAV, scal, frz, TypeDesc.aggB, AV.cells, lenAV, getAt, loadCell, loadCells, res, resL, intern, internL, putCells, ownR, ownRL, drops, flat, kill, killL, killN, killNL, clean, keep, refsL, refs, once, place, renL, ren, ctx, G, resOk, resVars, resVar, ownR, ownRL, pack, viewEs, bndOf, tInt, tBool, tInts, tIntss, tFrac, tLFrac, tFracs, tLFracs, eqT, cellInts, bld, partOk, intss, int, bool, hm, hs]
  | true =>
    rw [hr] at hm
    obtain ⟨h0, hlen⟩ := rect_len hr
    have hd0 : xss.getD 0 (true, []) = xss[0] := by rw [List.getD_eq_getElem?_getD, List.getElem?_eq_getElem h0]; rfl
    by_cases h1 : 0 ≤ i ∧ i < xss.length
    · have hw : mWithin [.v (.int .i64 i), .v (.int .i64 0), .v (.int .i64 ((xss.length : Int) - 1))] = some (.v (.bool true)) := by
        rw [mWithin_at]; congr 3; simp; omega
      by_cases h2 : f < 0
      · have hs : stripW xss i f t = -1 := by simp only [stripW]; rw [if_neg]; omega
        simp [Try.f28, awp_skip, awp_seq, awp_block, awp_exit, awp_ret, awp_loop, awp_region, awp_cond, contS_normal, contS_exit, contS_ret, inB_normal, inB_exit, inB_ret, loopS_normal, loopS_exit, loopS_ret, doneS_normal, doneS_ret, regS_some, condS_bool, bindS_some, rrun_nil, rrun_cons, outD_some, stepG_some, rstep_eq, callOut_some, callV_fn, aop_call, take_map_all, guardOk, aop, ev, putD, ofV, ofV1, Value.oneCell', asNat, abin, aun, pickAV, scal, frz, TypeDesc.aggB, AV.cells, lenAV, getAt, loadCell, loadCells, res, resL, intern, internL, putCells, ownR, ownRL, drops, flat, kill, killL, killN, killNL, clean, keep, refsL, refs, once, place, renL, ren, ctx, G, resOk, resVars, resVar, ownR, ownRL, pack, viewEs, bndOf, tInt, tBool, tInts, tIntss, tFrac, tLFrac, tFracs, tLFracs, eqT, cellInts, bld, partOk, intss, int, bool, hm, hs, hww, hw, h2]
      · by_cases h3 : f > t
        · have hs : stripW xss i f t = -1 := by simp only [stripW]; rw [if_neg]; omega
          have h3' : t < f := h3
          simp [Try.f28, awp_skip, awp_seq, awp_block, awp_exit, awp_ret, awp_loop, awp_region, awp_cond, contS_normal, contS_exit, contS_ret, inB_normal, inB_exit, inB_ret, loopS_normal, loopS_exit, loopS_ret, doneS_normal, doneS_ret, regS_some, condS_bool, bindS_some, rrun_nil, rrun_cons, outD_some, stepG_some, rstep_eq, callOut_some, callV_fn, aop_call, take_map_all, guardOk, aop, ev, putD, ofV, ofV1, Value.oneCell', asNat, abin, aun, pickAV, scal, frz, TypeDesc.aggB, AV.cells, lenAV, getAt, loadCell, loadCells, res, resL, intern, internL, putCells, ownR, ownRL, drops, flat, kill, killL, killN, killNL, clean, keep, refsL, refs, once, place, renL, ren, ctx, G, resOk, resVars, resVar, ownR, ownRL, pack, viewEs, bndOf, tInt, tBool, tInts, tIntss, tFrac, tLFrac, tFracs, tLFracs, eqT, cellInts, bld, partOk, intss, int, bool, hm, hs, hww, hw, h2, h3, h3']
        · by_cases h4 : t > xss[0].2.length
          · have hs : stripW xss i f t = -1 := by simp only [stripW]; rw [if_neg]; rw [hd0]; omega
            have h3' : ¬ t < f := h3
            have h4' : (xss[0].2.length : Int) < t := h4
            simp [Try.f28, awp_skip, awp_seq, awp_block, awp_exit, awp_ret, awp_loop, awp_region, awp_cond, contS_normal, contS_exit, contS_ret, inB_normal, inB_exit, inB_ret, loopS_normal, loopS_exit, loopS_ret, doneS_normal, doneS_ret, regS_some, condS_bool, bindS_some, rrun_nil, rrun_cons, outD_some, stepG_some, rstep_eq, callOut_some, callV_fn, aop_call, take_map_all, guardOk, aop, ev, putD, ofV, ofV1, Value.oneCell', asNat, abin, aun, pickAV, scal, frz, TypeDesc.aggB, AV.cells, lenAV, getAt, loadCell, loadCells, res, resL, intern, internL, putCells, ownR, ownRL, drops, flat, kill, killL, killN, killNL, clean, keep, refsL, refs, once, place, renL, ren, ctx, G, resOk, resVars, resVar, ownR, ownRL, pack, viewEs, bndOf, tInt, tBool, tInts, tIntss, tFrac, tLFrac, tFracs, tLFracs, eqT, cellInts, bld, partOk, intss, row, int, bool, hm, hs, hww, hw, h2, h3, h3', h4, h4', h0]
          · obtain ⟨k, rfl⟩ : ∃ k : Nat, i = k := ⟨i.toNat, by omega⟩
            obtain ⟨f, rfl⟩ : ∃ k : Nat, f = k := ⟨f.toNat, by omega⟩
            obtain ⟨t, rfl⟩ : ∃ k : Nat, t = k := ⟨t.toNat, by omega⟩
            have hk : k < xss.length := by omega
            have hdk : xss.getD k (true, []) = xss[k] := by rw [List.getD_eq_getElem?_getD, List.getElem?_eq_getElem hk]; rfl
            have hs : stripW xss k f t = sumW ((xss[k].2.drop f).take (t - f)) := by
              simp only [stripW]; rw [if_pos ⟨hr, by omega, by omega, by omega, by rw [hd0]; omega⟩]
              simp only [Int.toNat_natCast]; rw [hdk]
            have hlk := hlen k hk
            have hz := mSum_at xss[k].1 ((xss[k].2.drop f).take (t - f)) (by
              have := hp.2 xss[k] (List.getElem_mem _)
              simp only [List.length_take, List.length_drop]; omega)
            rw [List.map_take, List.map_drop] at hz
            have h3' : ¬ t < f := by omega
            have h4' : ¬ xss[0].2.length < t := by omega
            have h5 : f ≤ t := by omega
            have h6 : t ≤ xss[k].2.length := by omega
            simp [Try.f28, awp_skip, awp_seq, awp_block, awp_exit, awp_ret, awp_loop, awp_region, awp_cond, contS_normal, contS_exit, contS_ret, inB_normal, inB_exit, inB_ret, loopS_normal, loopS_exit, loopS_ret, doneS_normal, doneS_ret, regS_some, condS_bool, bindS_some, rrun_nil, rrun_cons, outD_some, stepG_some, rstep_eq, callOut_some, callV_fn, aop_call, take_map_all, guardOk, aop, ev, putD, ofV, ofV1, Value.oneCell', asNat, abin, aun, pickAV, scal, frz, TypeDesc.aggB, AV.cells, lenAV, getAt, loadCell, loadCells, res, resL, intern, internL, putCells, ownR, ownRL, drops, flat, kill, killL, killN, killNL, clean, keep, refsL, refs, once, place, renL, ren, ctx, G, resOk, resVars, resVar, ownR, ownRL, pack, viewEs, bndOf, tInt, tBool, tInts, tIntss, tFrac, tLFrac, tFracs, tLFracs, eqT, cellInts, bld, partOk, intss, row, int, bool, hm, hs, hww, hw, h3', h4', h0, hk, h5, h6, hz]
            intro hh
            omega
    · have hw : mWithin [.v (.int .i64 i), .v (.int .i64 0), .v (.int .i64 ((xss.length : Int) - 1))] = some (.v (.bool false)) := by
        rw [mWithin_at]; congr 3; simp; omega
      have hs : stripW xss i f t = -1 := by simp only [stripW]; rw [if_neg]; omega
      simp [Try.f28, awp_skip, awp_seq, awp_block, awp_exit, awp_ret, awp_loop, awp_region, awp_cond, contS_normal, contS_exit, contS_ret, inB_normal, inB_exit, inB_ret, loopS_normal, loopS_exit, loopS_ret, doneS_normal, doneS_ret, regS_some, condS_bool, bindS_some, rrun_nil, rrun_cons, outD_some, stepG_some, rstep_eq, callOut_some, callV_fn, aop_call, take_map_all, guardOk, aop, ev, putD, ofV, ofV1, Value.oneCell', asNat, abin, aun, pickAV, scal, frz, TypeDesc.aggB, AV.cells, lenAV, getAt, loadCell, loadCells, res, resL, intern, internL, putCells, ownR, ownRL, drops, flat, kill, killL, killN, killNL, clean, keep, refsL, refs, once, place, renL, ren, ctx, G, resOk, resVars, resVar, ownR, ownRL, pack, viewEs, bndOf, tInt, tBool, tInts, tIntss, tFrac, tLFrac, tFracs, tLFracs, eqT, cellInts, bld, partOk, intss, int, bool, hm, hs, hww, hw]

set_option maxHeartbeats 2000000 in
theorem specStripWorth_ok : FnOk Try.prog 27 mStrip := by
  refine mk_ok fun ⟨nl, xss, i, f, t⟩ hp => ?_
  simp only at hp
  have hG : FnsOk Try.prog [(23, mGrid 3 10 100), (34, mWithin), (41, mSum)] := .cons specCakeOk_ok (.cons l01In_ok (.cons l13Sum_ok .nil))
  refine callOk_of_awp (ctx_ok eqOk hG) mixed (live := [true, true, true, true, false, false, false, false, true, false, false, false, false, false, false, false, false, false, false, false, false, false, false, false, false, false, false, false, false, false, false, false, false, false, true]) Try.func27 rfl (by kernel_rfl) (by kernel_rfl) fun w0 => ?_
  have hm := mGrid_at (a := 3) (b := 10) (c := 100) nl xss hp
  have hp1 := hp.1
  have hww : IntKind.i64.wrap ((xss.length : Int) - 1) = xss.length - 1 := wrapI (by omega) (by omega)
  cases hr : rectB xss 3 10 100 with
  | false =>
    rw [hr] at hm
    have hs : stripW xss i f t = -1 := by simp [stripW, hr]
    simp [Try.f27, awp_skip, awp_seq, awp_block, awp_exit, awp_ret, awp_loop, awp_region, awp_cond, contS_normal, contS_exit, contS_ret, inB_normal, inB_exit, inB_ret, loopS_normal, loopS_exit, loopS_ret, doneS_normal, doneS_ret, regS_some, condS_bool, bindS_some, rrun_nil, rrun_cons, outD_some, stepG_some, rstep_eq, callOut_some, callV_fn, aop_call, take_map_all, guardOk, aop, ev, putD, ofV, ofV1, Value.oneCell', asNat, abin, aun, pickAV, scal, frz, TypeDesc.aggB, AV.cells, lenAV, getAt, loadCell, loadCells, res, resL, intern, internL, putCells, ownR, ownRL, drops, flat, kill, killL, killN, killNL, clean, keep, refsL, refs, once, place, renL, ren, ctx, G, resOk, resVars, resVar, ownR, ownRL, pack, viewEs, bndOf, tInt, tBool, tInts, tIntss, tFrac, tLFrac, tFracs, tLFracs, eqT, cellInts, bld, partOk, intss, int, bool, hm, hs]
  | true =>
    rw [hr] at hm
    obtain ⟨h0, hlen⟩ := rect_len hr
    have hd0 : xss.getD 0 (true, []) = xss[0] := by rw [List.getD_eq_getElem?_getD, List.getElem?_eq_getElem h0]; rfl
    by_cases h1 : 0 ≤ i ∧ i < xss.length
    · have hw : mWithin [.v (.int .i64 i), .v (.int .i64 0), .v (.int .i64 ((xss.length : Int) - 1))] = some (.v (.bool true)) := by
        rw [mWithin_at]; congr 3; simp; omega
      by_cases h2 : 0 ≤ t ∧ t ≤ xss[0].2.length
      · have hw2 : mWithin [.v (.int .i64 t), .v (.int .i64 0), .v (.int .i64 (xss[0].2.length : Int))] = some (.v (.bool true)) := by
          rw [mWithin_at]; congr 3; simp; omega
        by_cases h3 : 0 ≤ f ∧ f ≤ t
        · have hw3 : mWithin [.v (.int .i64 f), .v (.int .i64 0), .v (.int .i64 t)] = some (.v (.bool true)) := by
            rw [mWithin_at]; congr 3; simp; omega
          obtain ⟨k, rfl⟩ : ∃ k : Nat, i = k := ⟨i.toNat, by omega⟩
          obtain ⟨f, rfl⟩ : ∃ k : Nat, f = k := ⟨f.toNat, by omega⟩
          obtain ⟨t, rfl⟩ : ∃ k : Nat, t = k := ⟨t.toNat, by omega⟩
          have hk : k < xss.length := by omega
          have hdk : xss.getD k (true, []) = xss[k] := by rw [List.getD_eq_getElem?_getD, List.getElem?_eq_getElem hk]; rfl
          have hs : stripW xss k f t = sumW ((xss[k].2.drop f).take (t - f)) := by
            simp only [stripW]; rw [if_pos ⟨hr, by omega, by omega, by omega, by rw [hd0]; omega⟩]
            simp only [Int.toNat_natCast]; rw [hdk]
          have hlk := hlen k hk
          have hz := mSum_at xss[k].1 ((xss[k].2.drop f).take (t - f)) (by
            have := hp.2 xss[k] (List.getElem_mem _)
            simp only [List.length_take, List.length_drop]; omega)
          rw [List.map_take, List.map_drop] at hz
          have h5 : f ≤ t := by omega
          have h6 : t ≤ xss[k].2.length := by omega
          simp [Try.f27, awp_skip, awp_seq, awp_block, awp_exit, awp_ret, awp_loop, awp_region, awp_cond, contS_normal, contS_exit, contS_ret, inB_normal, inB_exit, inB_ret, loopS_normal, loopS_exit, loopS_ret, doneS_normal, doneS_ret, regS_some, condS_bool, bindS_some, rrun_nil, rrun_cons, outD_some, stepG_some, rstep_eq, callOut_some, callV_fn, aop_call, take_map_all, guardOk, aop, ev, putD, ofV, ofV1, Value.oneCell', asNat, abin, aun, pickAV, scal, frz, TypeDesc.aggB, AV.cells, lenAV, getAt, loadCell, loadCells, res, resL, intern, internL, putCells, ownR, ownRL, drops, flat, kill, killL, killN, killNL, clean, keep, refsL, refs, once, place, renL, ren, ctx, G, resOk, resVars, resVar, ownR, ownRL, pack, viewEs, bndOf, tInt, tBool, tInts, tIntss, tFrac, tLFrac, tFracs, tLFracs, eqT, cellInts, bld, partOk, intss, row, int, bool, hm, hs, hww, hw, hw2, hw3, h0, hk, h5, h6, hz]
        · have hw3 : mWithin [.v (.int .i64 f), .v (.int .i64 0), .v (.int .i64 t)] = some (.v (.bool false)) := by
            rw [mWithin_at]; congr 3; simp; omega
          have hs : stripW xss i f t = -1 := by simp only [stripW]; rw [if_neg]; omega
          simp [Try.f27, awp_skip, awp_seq, awp_block, awp_exit, awp_ret, awp_loop, awp_region, awp_cond, contS_normal, contS_exit, contS_ret, inB_normal, inB_exit, inB_ret, loopS_normal, loopS_exit, loopS_ret, doneS_normal, doneS_ret, regS_some, condS_bool, bindS_some, rrun_nil, rrun_cons, outD_some, stepG_some, rstep_eq, callOut_some, callV_fn, aop_call, take_map_all, guardOk, aop, ev, putD, ofV, ofV1, Value.oneCell', asNat, abin, aun, pickAV, scal, frz, TypeDesc.aggB, AV.cells, lenAV, getAt, loadCell, loadCells, res, resL, intern, internL, putCells, ownR, ownRL, drops, flat, kill, killL, killN, killNL, clean, keep, refsL, refs, once, place, renL, ren, ctx, G, resOk, resVars, resVar, ownR, ownRL, pack, viewEs, bndOf, tInt, tBool, tInts, tIntss, tFrac, tLFrac, tFracs, tLFracs, eqT, cellInts, bld, partOk, intss, row, int, bool, hm, hs, hww, hw, hw2, hw3, h0]
      · have hw2 : mWithin [.v (.int .i64 t), .v (.int .i64 0), .v (.int .i64 (xss[0].2.length : Int))] = some (.v (.bool false)) := by
          rw [mWithin_at]; congr 3; simp; omega
        have hs : stripW xss i f t = -1 := by simp only [stripW]; rw [if_neg]; rw [hd0]; omega
        simp [Try.f27, awp_skip, awp_seq, awp_block, awp_exit, awp_ret, awp_loop, awp_region, awp_cond, contS_normal, contS_exit, contS_ret, inB_normal, inB_exit, inB_ret, loopS_normal, loopS_exit, loopS_ret, doneS_normal, doneS_ret, regS_some, condS_bool, bindS_some, rrun_nil, rrun_cons, outD_some, stepG_some, rstep_eq, callOut_some, callV_fn, aop_call, take_map_all, guardOk, aop, ev, putD, ofV, ofV1, Value.oneCell', asNat, abin, aun, pickAV, scal, frz, TypeDesc.aggB, AV.cells, lenAV, getAt, loadCell, loadCells, res, resL, intern, internL, putCells, ownR, ownRL, drops, flat, kill, killL, killN, killNL, clean, keep, refsL, refs, once, place, renL, ren, ctx, G, resOk, resVars, resVar, ownR, ownRL, pack, viewEs, bndOf, tInt, tBool, tInts, tIntss, tFrac, tLFrac, tFracs, tLFracs, eqT, cellInts, bld, partOk, intss, row, int, bool, hm, hs, hww, hw, hw2, h0]
    · have hw : mWithin [.v (.int .i64 i), .v (.int .i64 0), .v (.int .i64 ((xss.length : Int) - 1))] = some (.v (.bool false)) := by
        rw [mWithin_at]; congr 3; simp; omega
      have hs : stripW xss i f t = -1 := by simp only [stripW]; rw [if_neg]; omega
      simp [Try.f27, awp_skip, awp_seq, awp_block, awp_exit, awp_ret, awp_loop, awp_region, awp_cond, contS_normal, contS_exit, contS_ret, inB_normal, inB_exit, inB_ret, loopS_normal, loopS_exit, loopS_ret, doneS_normal, doneS_ret, regS_some, condS_bool, bindS_some, rrun_nil, rrun_cons, outD_some, stepG_some, rstep_eq, callOut_some, callV_fn, aop_call, take_map_all, guardOk, aop, ev, putD, ofV, ofV1, Value.oneCell', asNat, abin, aun, pickAV, scal, frz, TypeDesc.aggB, AV.cells, lenAV, getAt, loadCell, loadCells, res, resL, intern, internL, putCells, ownR, ownRL, drops, flat, kill, killL, killN, killNL, clean, keep, refsL, refs, once, place, renL, ren, ctx, G, resOk, resVars, resVar, ownR, ownRL, pack, viewEs, bndOf, tInt, tBool, tInts, tIntss, tFrac, tLFrac, tFracs, tLFracs, eqT, cellInts, bld, partOk, intss, int, bool, hm, hs, hww, hw]

end Go.Proofs.Ytpeajmejggnpbaa.Ax
