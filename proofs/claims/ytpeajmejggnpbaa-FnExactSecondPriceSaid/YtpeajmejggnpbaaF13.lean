/-
  Contract of the reference's l05Best. No condition.
-/
import Derived.Test.YtpeajmejggnpbaaF12
namespace Go.Proofs.Ytpeajmejggnpbaa.Ax
open Go Go.RowKit
set_option linter.unusedSimpArgs false

theorem le_mxTo {xs : List Int} : ∀ {k : Nat}, k ≤ xs.length → ∀ i (hi : i < xs.length), i < k → xs[i] ≤ mxTo xs k
  | 0, _, i, _, h => by omega
  | k + 1, hk, i, hi, h => by
    rw [mxTo_succ (by omega)]
    by_cases e : i = k
    · subst e; omega
    · have := le_mxTo (xs := xs) (k := k) (by omega) i hi (by omega); omega

theorem posOf_mem {xs : List Int} {m : Int} {k : Nat} {z : Int} (h : z ∈ posOf xs m k) : ∃ i : Nat, z = i ∧ i < k ∧ xs[i]? = some m := by
  unfold posOf at h
  simp only [List.mem_map, List.mem_filter, List.mem_range, decide_eq_true_eq] at h
  obtain ⟨i, ⟨h1, h2⟩, rfl⟩ := h
  exact ⟨i, rfl, h1, h2⟩

theorem posOf_none {xs : List Int} {m : Int} {k : Nat} (hk : k ≤ xs.length) (h : ∀ i (hi : i < xs.length), i < k → xs[i] ≠ m) : posOf xs m k = [] := by
  cases hp : posOf xs m k with
  | nil => rfl
  | cons z l =>
    obtain ⟨i, _, h1, h2⟩ := posOf_mem (xs := xs) (m := m) (k := k) (z := z) (by rw [hp]; simp)
    rw [List.getElem?_eq_getElem (by omega)] at h2
    exact (h i (by omega) h1 (Option.some.inj h2)).elim

theorem posOf_ne {xs : List Int} : ∀ {k : Nat}, k ≤ xs.length → 0 < k → posOf xs (mxTo xs k) k ≠ []
  | 0, _, h => by omega
  | k + 1, hk, _ => by
    rw [posOf_succ (by omega)]
    by_cases e : xs[k] = mxTo xs (k + 1)
    · simp [e]
    · by_cases hk0 : k = 0
      · subst hk0
        rw [mxTo_one (by omega)] at e
        exact (e rfl).elim
      · have hm := mxTo_succ (xs := xs) (k := k) (by omega)
        have : mxTo xs (k + 1) = mxTo xs k := by omega
        rw [this]
        have := posOf_ne (xs := xs) (k := k) (by omega) (by omega)
        simp [this]

noncomputable def mBest : List AV → Option AV := mk (fun p => p.2.length ≤ 2 ^ 40) (fun (p : Bool × List Int) => [ints p.1 p.2]) (fun p => ints false (posOf p.2 (mx p.2) p.2.length))
theorem mBest_at (nl : Bool) (xs : List Int) (h' : xs.length ≤ 2 ^ 40) : mBest [.sl nl 1 (xs.map int)] = some (.sl false 1 ((posOf xs (mx xs) xs.length).map int)) :=
  mk_eq (enc := fun (p : Bool × List Int) => [ints p.1 p.2]) (x := (nl, xs)) (by rintro ⟨x, x'⟩ ⟨y, y'⟩ h; simp [ints, map_int_inj] at h; simp [h]) h'

set_option maxHeartbeats 4000000 in
theorem l05Best_ok : FnOk Try.prog 35 mBest := by
  refine mk_ok fun ⟨nl, xs⟩ hp => ?_
  simp only at hp
  refine callOk_of_awp (ctx_ok eqOk .nil) mixed (live := [true, false, true, true, true, true, false, true, true, true, true, false, false, false, true, false, false, false, false, false, false, false, false, false, false, false, false, false, false, false, true]) Try.func35 rfl (by kernel_rfl) (by kernel_rfl) fun w0 => ?_
  simp [Try.f35, awp_skip, awp_seq, awp_block, awp_exit, awp_ret, awp_loop, awp_region, awp_cond, contS_normal, contS_exit, contS_ret, inB_normal, inB_exit, inB_ret, loopS_normal, loopS_exit, loopS_ret, doneS_normal, doneS_ret, regS_some, condS_bool, bindS_some, rrun_nil, rrun_cons, outD_some, stepG_some, rstep_eq, callOut_some, callV_fn, aop_call, take_map_all, guardOk, aop, ev, putD, ofV, ofV1, Value.oneCell', asNat, abin, aun, pickAV, scal, frz, TypeDesc.aggB, AV.cells, lenAV, getAt, loadCell, loadCells, res, resL, intern, internL, putCells, ownR, ownRL, drops, flat, kill, killL, killN, killNL, clean, keep, refsL, refs, once, place, renL, ren, ctx, G, resOk, resVars, resVar, ownR, ownRL, pack, viewEs, bndOf, appX, appY, List.range, List.range.loop, tInt, tBool, tInts, tIntss, tFrac, tLFrac, tFracs, tLFracs, eqT, cellInts, bld, partOk, ints]
  refine awp_loop_of (ctx_ok eqOk .nil) mixed (live := [true, false, true, true, true, true, false, true, true, true, true, false, false, false, true, false, false, false, false, false, false, false, false, false, false, false, false, false, false, false, true]) [true, false, false, true, false, false, false, true, true, true] (α := {k : Nat // k ≤ xs.length})
    (fun k => ⟨[ints nl xs, .junk, .junk, .ref 0 [] 0 (posOf xs (mxTo xs k.1) k.1).length, .junk, .junk, .junk, ints nl xs, int xs.length, int k.1, .junk, .junk, .junk, .junk, .junk, .junk, .junk, .junk, .junk, .junk, .junk, .junk, .junk, .junk, .junk, .junk, .junk, .junk, .junk, .junk, .junk, .junk, .junk, .junk, .junk, .junk, .junk, .junk, .junk, .junk, .junk, .junk, .junk, .junk, .junk], [⟨true, .sl false 1 ((posOf xs (mxTo xs k.1) k.1).map int)⟩]⟩) (fun k => xs.length - k.1) ⟨0, by omega⟩
    (by simp [sub, slotsLe, clean, keep, refsL, refs, once, place, renL, ren, List.replicate, int, bool, ints, posOf_zero]) ?_
  rintro ⟨k, hk⟩
  have hpl := posOf_len (xs := xs) (m := mxTo xs k) (k := k)
  by_cases h : k < xs.length
  · have hm := mxTo_succ h
    have hs := posOf_succ (m := mxTo xs (k + 1)) h
    cases hl : posOf xs (mxTo xs k) k with
    | nil =>
      have hk0 : k = 0 := by
        by_cases e : k = 0
        · exact e
        · exact (posOf_ne (by omega) (by omega) hl).elim
      subst hk0
      have h1 : posOf xs (mxTo xs 1) 1 = [0] := by
        rw [Nat.zero_add] at hs
        rw [hs, mxTo_one h, posOf_zero]; simp
      simp [awp_skip, awp_seq, awp_block, awp_exit, awp_ret, awp_loop, awp_region, awp_cond, contS_normal, contS_exit, contS_ret, inB_normal, inB_exit, inB_ret, loopS_normal, loopS_exit, loopS_ret, doneS_normal, doneS_ret, regS_some, condS_bool, bindS_some, rrun_nil, rrun_cons, outD_some, stepG_some, rstep_eq, callOut_some, callV_fn, aop_call, take_map_all, guardOk, aop, ev, putD, ofV, ofV1, Value.oneCell', asNat, abin, aun, pickAV, scal, frz, TypeDesc.aggB, AV.cells, lenAV, getAt, loadCell, loadCells, res, resL, intern, internL, putCells, ownR, ownRL, drops, flat, kill, killL, killN, killNL, clean, keep, refsL, refs, once, place, renL, ren, ctx, G, resOk, resVars, resVar, ownR, ownRL, pack, viewEs, bndOf, appX, appY, List.range, List.range.loop, tInt, tBool, tInts, tIntss, tFrac, tLFrac, tFracs, tLFracs, eqT, cellInts, bld, partOk, ints, int, h, h1]
      refine ⟨⟨1, h⟩, ?_, by simp; omega⟩
      simp [sub, slotsLe, clean, keep, refsL, refs, once, place, renL, ren, List.replicate, int, bool, ints, h1]
      exact wrapI (by omega) (by omega)
    | cons a l =>
      obtain ⟨p, rfl, hpk, hpm⟩ := posOf_mem (xs := xs) (m := mxTo xs k) (k := k) (z := a) (by rw [hl]; simp)
      have hpx : p < xs.length := by omega
      rw [List.getElem?_eq_getElem hpx] at hpm
      have hpm' : xs[p] = mxTo xs k := Option.some.inj hpm
      rw [hl] at hpl
      have hb : (l.length + 1 + 1) * 8 ≤ 140737488355328 := by simp at hpl; omega
      have hb2 : l.length + 1 + 1 ≤ 4611686018427387904 := by simp at hpl; omega
      have hz0 : (((l.length : Int) + 1) == 0) = false := by simp; omega
      by_cases hgt : mxTo xs k < xs[k]
      · have hm2 : mxTo xs (k + 1) = xs[k] := by omega
        have hn : posOf xs (mxTo xs (k + 1)) (k + 1) = [(k : Int)] := by
          rw [hs, hm2, posOf_none (by omega) fun i hi hik => by have := le_mxTo (xs := xs) (k := k) (by omega) i hi hik; omega]; simp
        simp [awp_skip, awp_seq, awp_block, awp_exit, awp_ret, awp_loop, awp_region, awp_cond, contS_normal, contS_exit, contS_ret, inB_normal, inB_exit, inB_ret, loopS_normal, loopS_exit, loopS_ret, doneS_normal, doneS_ret, regS_some, condS_bool, bindS_some, rrun_nil, rrun_cons, outD_some, stepG_some, rstep_eq, callOut_some, callV_fn, aop_call, take_map_all, guardOk, aop, ev, putD, ofV, ofV1, Value.oneCell', asNat, abin, aun, pickAV, scal, frz, TypeDesc.aggB, AV.cells, lenAV, getAt, loadCell, loadCells, res, resL, intern, internL, putCells, ownR, ownRL, drops, flat, kill, killL, killN, killNL, clean, keep, refsL, refs, once, place, renL, ren, ctx, G, resOk, resVars, resVar, ownR, ownRL, pack, viewEs, bndOf, appX, appY, List.range, List.range.loop, tInt, tBool, tInts, tIntss, tFrac, tLFrac, tFracs, tLFracs, eqT, cellInts, bld, partOk, ints, int, h, hl, hz0, hpx, hpm', hgt]
        refine ⟨⟨k + 1, h⟩, ?_, by simp; omega⟩
        simp [sub, slotsLe, clean, keep, refsL, refs, once, place, renL, ren, List.replicate, int, bool, ints, hn]
        exact wrapI (by omega) (by omega)
      · have hm2 : mxTo xs (k + 1) = mxTo xs k := by omega
        rw [hm2, hl] at hs
        by_cases heq : xs[k] = mxTo xs k
        · simp [heq] at hs
          simp [awp_skip, awp_seq, awp_block, awp_exit, awp_ret, awp_loop, awp_region, awp_cond, contS_normal, contS_exit, contS_ret, inB_normal, inB_exit, inB_ret, loopS_normal, loopS_exit, loopS_ret, doneS_normal, doneS_ret, regS_some, condS_bool, bindS_some, rrun_nil, rrun_cons, outD_some, stepG_some, rstep_eq, callOut_some, callV_fn, aop_call, take_map_all, guardOk, aop, ev, putD, ofV, ofV1, Value.oneCell', asNat, abin, aun, pickAV, scal, frz, TypeDesc.aggB, AV.cells, lenAV, getAt, loadCell, loadCells, res, resL, intern, internL, putCells, ownR, ownRL, drops, flat, kill, killL, killN, killNL, clean, keep, refsL, refs, once, place, renL, ren, ctx, G, resOk, resVars, resVar, ownR, ownRL, pack, viewEs, bndOf, appX, appY, List.range, List.range.loop, tInt, tBool, tInts, tIntss, tFrac, tLFrac, tFracs, tLFracs, eqT, cellInts, bld, partOk, ints, int, h, hl, hz0, hpx, hpm', hgt, heq, hb, hb2]
          refine ⟨⟨k + 1, h⟩, ?_, by simp; omega⟩
          simp [sub, slotsLe, clean, keep, refsL, refs, once, place, renL, ren, List.replicate, int, bool, ints, hm2, hs]
          exact wrapI (by omega) (by omega)
        · simp [heq] at hs
          have heq' : (xs[k] == mxTo xs k) = false := by simpa using heq
          simp [awp_skip, awp_seq, awp_block, awp_exit, awp_ret, awp_loop, awp_region, awp_cond, contS_normal, contS_exit, contS_ret, inB_normal, inB_exit, inB_ret, loopS_normal, loopS_exit, loopS_ret, doneS_normal, doneS_ret, regS_some, condS_bool, bindS_some, rrun_nil, rrun_cons, outD_some, stepG_some, rstep_eq, callOut_some, callV_fn, aop_call, take_map_all, guardOk, aop, ev, putD, ofV, ofV1, Value.oneCell', asNat, abin, aun, pickAV, scal, frz, TypeDesc.aggB, AV.cells, lenAV, getAt, loadCell, loadCells, res, resL, intern, internL, putCells, ownR, ownRL, drops, flat, kill, killL, killN, killNL, clean, keep, refsL, refs, once, place, renL, ren, ctx, G, resOk, resVars, resVar, ownR, ownRL, pack, viewEs, bndOf, appX, appY, List.range, List.range.loop, tInt, tBool, tInts, tIntss, tFrac, tLFrac, tFracs, tLFracs, eqT, cellInts, bld, partOk, ints, int, h, hl, hz0, hpx, hpm', hgt, heq, heq']
          refine ⟨⟨k + 1, h⟩, ?_, by simp; omega⟩
          simp [sub, slotsLe, clean, keep, refsL, refs, once, place, renL, ren, List.replicate, int, bool, ints, hm2, hs]
          exact wrapI (by omega) (by omega)
  · have hk' : k = xs.length := by omega
    subst hk'
    simp [awp_skip, awp_seq, awp_block, awp_exit, awp_ret, awp_loop, awp_region, awp_cond, contS_normal, contS_exit, contS_ret, inB_normal, inB_exit, inB_ret, loopS_normal, loopS_exit, loopS_ret, doneS_normal, doneS_ret, regS_some, condS_bool, bindS_some, rrun_nil, rrun_cons, outD_some, stepG_some, rstep_eq, callOut_some, callV_fn, aop_call, take_map_all, guardOk, aop, ev, putD, ofV, ofV1, Value.oneCell', asNat, abin, aun, pickAV, scal, frz, TypeDesc.aggB, AV.cells, lenAV, getAt, loadCell, loadCells, res, resL, intern, internL, putCells, ownR, ownRL, drops, flat, kill, killL, killN, killNL, clean, keep, refsL, refs, once, place, renL, ren, ctx, G, resOk, resVars, resVar, ownR, ownRL, pack, viewEs, bndOf, appX, appY, List.range, List.range.loop, tInt, tBool, tInts, tIntss, tFrac, tLFrac, tFracs, tLFracs, eqT, cellInts, bld, partOk, ints, int, h, mx]

end Go.Proofs.Ytpeajmejggnpbaa.Ax
