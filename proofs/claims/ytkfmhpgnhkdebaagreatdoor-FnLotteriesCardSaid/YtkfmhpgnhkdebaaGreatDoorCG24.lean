/-
  Contract: SplitLottery of the program. No condition.
-/
import Derived.Test.YtkfmhpgnhkdebaaGreatDoorCG20
namespace Go.Proofs.YtkfmhpgnhkdebaaGreatDoor.Ax
open Go Go.RowKit
set_option linter.unusedSimpArgs false
def kOut (out : List Tk) : List Tok := [⟨true, .sl false 3 (out.map tick)⟩]
set_option maxRecDepth 16000 in
set_option maxHeartbeats 8000000 in
theorem implSpl_ok : FnOk Tryz.prog 32 mSpl := by
  refine mk_ok fun ⟨nl, m⟩ _ => ?_
  simp only
  unfold splT
  have hG : FnsOk Tryz.prog [(30, mLot), (104, mCopyL), (105, mTaken), (92, mAllRk), (106, mIdxT), (108, mLeast), (109, mMinus)] := (.cons implLot_ok (.cons copyL_ok (.cons isTaken_ok (.cons implAllRankings_ok (.cons idxT_ok (.cons least_ok (.cons minus_ok .nil)))))))
  cases hlot : lotB m with
  | false =>
    simp only [Bool.false_eq_true, if_false]
    refine splAW_ok ?_
    refine callOk_awp (ctx_ok eqOk hG) mixed (live := [true, false, true, true, true, true, true, true, true, true, true, true, false, false, true, false, false, false, false, true, false, false, false, false, false, false, true, false, false, false, false, false, false, false, false, false, false, false, false, false, true, true, true, true, false, false, false, false, false, false, false, false, false, false, false, false, false, false, false, false, false, true]) (dt := [(14, ⟨[(12, 14)], [0, 0, 0, 0, 0, 0, 0, 0, 0, 0, 0, 0, 0, 1], []⟩), (17, ⟨[], [], []⟩)]) Tryz.func32 rfl (by kernel_rfl) (by kernel_rfl) fun w0 hlens => ?_
    clear hlens
    simp (config := {contextual := true}) [Tryz.f32, List.range, List.range.loop, ints, intss, int, bool, row, frac, fracs, ← List.map_take, ← List.map_drop, fracss, mLot_at, hlot, splAW]
  | true =>
  simp only [if_true]
  generalize hR : splR 16 m [] = R
  refine splAW_ok ?_
  refine callOk_awp (ctx_ok eqOk hG) mixed (live := [true, false, true, true, true, true, true, true, true, true, true, true, false, false, true, false, false, false, false, true, false, false, false, false, false, false, true, false, false, false, false, false, false, false, false, false, false, false, false, false, true, true, true, true, false, false, false, false, false, false, false, false, false, false, false, false, false, false, false, false, false, true]) (dt := [(14, ⟨[(12, 14)], [0, 0, 0, 0, 0, 0, 0, 0, 0, 0, 0, 0, 0, 1], []⟩), (17, ⟨[], [], []⟩)]) Tryz.func32 rfl (by kernel_rfl) (by kernel_rfl) fun w0 hlens => ?_
  have hflag := lot_flag hlot (lens_fracss.1 hlens.1).2
  clear hlens
  have ht0 := lot_tab hlot hflag
  have hn1 := ht0.n1
  have hn4 := ht0.n4
  obtain ⟨hs0, he0⟩ := spl_start hlot hflag
  rw [hR] at hs0
  have hcp := mCopyL_at nl m ⟨hn1, by omega, fun r hr => ⟨hflag r hr, by
    obtain ⟨i, hi, rfl⟩ := List.getElem_of_mem hr
    rw [(ht0.row i hi).2]; omega⟩⟩
  have hin : inR 1 5 (m.length : Int) = true := by simp [inR]; omega
  simp (config := {contextual := true}) [Tryz.f32, List.range, List.range.loop, ints, intss, int, bool, row, frac, fracs, ← List.map_take, ← List.map_drop, fracss, mLot_at, hlot, hcp]
  refine awp_loop_of (live := [true, false, true, true, true, true, true, true, true, true, true, true, false, false, true, false, false, false, false, true, false, false, false, false, false, false, true, false, false, false, false, false, false, false, false, false, false, false, false, false, true, true, true, true, false, false, false, false, false, false, false, false, false, false, false, false, false, false, false, false, false, true]) (ctx_ok eqOk hG) mixed [true, false, false, false, true, true] (α := SpSt m.length R) (fun st => ⟨[fracss nl m, .junk, .junk, .junk, .ptr 0 [] 0 0, tkA 1 st.out, .junk, .junk, .junk, .junk, .junk, .junk, .junk, .junk, .junk, .junk, .junk, .junk, .junk, .junk, .junk, .junk, .junk, .junk, .junk, .junk, .junk, .junk, .junk, .junk, .junk, .junk, .junk, .junk, .junk, .junk, .junk, .junk, .junk, .junk, .junk, .junk, .junk, .junk, .junk, .junk, .junk, .junk, .junk, .junk, .junk, .junk, .junk, .junk, .junk, .junk, .junk, .junk, .junk, .junk, .junk, .junk, .junk, .junk, .junk, .junk, .junk, .junk, .junk, .junk, .junk, .junk, .junk, .junk, .junk], ⟨true, .sl false 1 [.sl false 1 (st.m.map frow)]⟩ :: tkT st.out⟩) (fun st => cntP st.m) ⟨m, [], hs0, fun _ => he0⟩ (by simp [sub, slotsLe, clean, keep, refsL, refs, once, place, renL, ren, List.replicate, int, bool, fracss, tkA, tkT]) ?_
  rintro ⟨T, out, hok, hne⟩
  simp only
  have hTl := hok.ln
  obtain ⟨s, hts⟩ := hok.tab
  have htkn := mTaken_at false T (cat_len hts)
  have htk : List.take m.length (T.map frow) = T.map frow := List.take_of_length_le (by simp [hTl])
  have hto : List.take out.length (out.map tick) = out.map tick := List.take_of_length_le (by simp)
  rw [tak_ex hts] at htkn
  cases he : exO T with
  | none =>
    have hdone := spl_done hok he
    rw [he] at htkn
    simp only [Option.isNone_none] at htkn
    subst hdone
    have hon : out ≠ [] := fun h => hne h he
    rw [tkA_ne hon, tkT_ne hon]
    simp (config := {contextual := true}) [List.range, List.range.loop, ints, intss, int, bool, row, frac, fracs, ← List.map_take, ← List.map_drop, fracss, hTl, htk, htkn, splAW, hto]
    done
  | some l =>
  rw [he] at htkn
  simp only [Option.isNone_some] at htkn
  obtain ⟨hrk, hpl⟩ := spl_rank hok he
  have hrk' : rankB T.length l = true := by rw [hTl]; exact hrk
  have hll : l.length = m.length := by have := (rank_facts hrk).2.2.1; omega
  obtain ⟨k0, hk0, hek, hidx⟩ : ∃ (k : Nat) (hk : k < (allRk m.length).length), (allRk m.length)[k].2 = l ∧ idxOf (fun o => posL T o.2) (allRk m.length) = k := by
    rcases idx_ex (m := T) with ⟨h1, _⟩ | ⟨k, hk, h1, h2⟩
    · rw [he] at h1; simp at h1
    · rw [he] at h1
      simp only [Option.some.injEq] at h1
      simp only [hTl] at hk h1 h2
      exact ⟨k, hk, h1.symm, h2⟩
  have hidxm := mIdxT_at T ⟨s, hts⟩
  rw [hTl, hidx] at hidxm
  have hrkA := mAllRk_at (m.length : Int)
  rw [hin] at hrkA
  have hkf := (allRk_rk hn1 hn4 _ (List.getElem_mem hk0)).1
  have hlr := fun nl' => mLeast_at false T nl' l ⟨⟨by omega, by omega⟩, by omega, fun i hi => by
    obtain ⟨x, e, hx⟩ := rk_at hrk' hi
    exact ⟨x, e, by rw [(hts.row i hi).2]; exact hx, by rw [← tab_cel hts hi hx]; exact (hts.ok i x hi hx).1⟩⟩
  have hrow0 : row (allRk (m.length : Int))[k0] = .sl false 1 (l.map int) := by unfold row; rw [hkf, hek]
  have hllm : ((allRk (m.length : Int))[k0]).2.length = l.length := by rw [hek]
  have hfew := hok.few
  have hwok := (lst_ok hts hrk').1
  have hfail : (¬ ∀ i, i < T.length → (subF (cel0 T i (at0 l i).toNat) (lstF T l)).2 = true) → R = ([], false) := fun q => spl_fail hok he (by
    cases e : subOk T l (lstF T l) with
    | false => rfl
    | true => exact (q fun i hi => allR_at e hi).elim)
  have htl : List.take l.length (l.map int) = l.map int := List.take_of_length_le (by simp)
  generalize allRk (m.length : Int) = AR at *
  have hm0 : 0 < m.length := by omega
  have hk00 : ¬ ((k0 : Int) < 0) := by omega
  have hsT : subTab T l (lstF T l) l.length = stepT T l := by unfold stepT; rw [hll, hTl]
  by_cases hon : out = []
  · subst hon
    rw [show tkA 1 ([] : List Tk) = .sl true 1 [] from rfl,show tkT ([] : List Tk) = [] from rfl]
    simp (config := {maxSteps := 1000000}) [List.range, List.range.loop, ints, intss, int, bool, row, frac, fracs, ← List.map_take, ← List.map_drop, fracss, hTl, htk, htkn, hrkA, hidxm, hlr, hk00, hk0, hkf, hek, hllm, htl, hm0, row]
    refine awp_range (live := [true, false, true, true, true, true, true, true, true, true, true, true, false, false, true, false, false, false, false, true, false, false, false, false, false, false, true, false, false, false, false, false, false, false, false, false, false, false, false, false, true, true, true, true, false, false, false, false, false, false, false, false, false, false, false, false, false, false, false, false, false, true]) (ctx_ok eqOk hG) mixed [true, false, false, false, true, true, false, true, false, false, false, false, false, false, false, false, false, false, false, false, false, false, false, false, false, false, false, false, false, false, false, false, false, false, false, false, false, false, false, false, true, true, true] (l.length) (fun k => ∀ i, i < k → (subF (cel0 T i (at0 l i).toNat) (lstF T l)).2 = true) (fun k => ⟨[fracss nl m, .junk, .junk, .junk, .ptr 0 [] 0 0, .sl true 1 [], .junk, .ptr 1 [] 0 0, .junk, .junk, .junk, .junk, .junk, .junk, .junk, .junk, .junk, .junk, .junk, .junk, .junk, .junk, .junk, .junk, .junk, .junk, .junk, .junk, .junk, .junk, .junk, .junk, .junk, .junk, .junk, .junk, .junk, .junk, .junk, .junk, .ref 1 [(0, 2)] 0 l.length, int l.length, int k, .junk, .junk, .junk, .junk, .junk, .junk, .junk, .junk, .junk, .junk, .junk, .junk, .junk, .junk, .junk, .junk, .junk, .junk, .junk, .junk, .junk, .junk, .junk, .junk, .junk, .junk, .junk, .junk, .junk, .junk, .junk, .junk], [⟨true, .sl false 1 [.sl false 1 ((subTab T l (lstF T l) k).map frow)]⟩] ++ [] ++ [⟨true, .sl false 3 [tick (lstF T l, false, l)]⟩]⟩) ?_ (by simp [sub, slotsLe, clean, keep, refsL, refs, once, place, renL, ren, List.replicate, int, bool, fracss, kOut, tick, subTab_zero]) ?_ ?_ ?_
    · omega
    · intro i hi; omega
    · intro k hk hp hwk
      have hkT : k < T.length := by omega
      have hkm : k < m.length := by omega
      obtain ⟨x, ex, hx⟩ := rk_at hrk' hkT
      have hx' : x < (T[k]).2.length := by rw [(hts.row k hkT).2]; exact hx
      have hlx : l[k] = (x : Int) := by rw [← at0_eq hk]; exact ex
      have hc : cel0 T k (at0 l k).toNat = (T[k]).2[x] := by rw [ex, Int.toNat_natCast, cel0_at hkT hx']
      have hsl := subTab_len (m := T) (l := l) (w := lstF T l) (k := k)
      have hsl2 := subTab_len (m := T) (l := l) (w := lstF T l) (k := k + 1)
      have hso := fun h' => subTab_old (m := T) (l := l) (w := lstF T l) hkT h'
      have hset := subTab_set (m := T) (l := l) (w := lstF T l) hkT
      rw [hc, show (at0 l k).toNat = x by rw [ex]; rfl] at hset
      have hmin := mMinus_at (T[k]).2[x].1 (T[k]).2[x].2 (lstF T l).1 (lstF T l).2 hwok
      rw [show (((lstF T l).1, (lstF T l).2) : Int × Int) = lstF T l from rfl, show (((T[k]).2[x].1, (T[k]).2[x].2) : Int × Int) = (T[k]).2[x] from rfl] at hmin
      have hrk1 := (hts.row k hkT).1
      rw [hTl] at hsl hsl2
      clear hidxm hlr hsT
      generalize subTab T l (lstF T l) k = A at *
      generalize subTab T l (lstF T l) (k + 1) = B at *
      generalize lstF T l = w at *
      cases hb : (subF (T[k]).2[x] w).2 with
      | false =>
        have hf := hfail (fun q => by
          have := q k hkT
          rw [hc, hb] at this
          exact Bool.noConfusion this)
        subst hf
        rw [hb] at hmin
        simp (config := {maxSteps := 1000000}) [List.range, List.range.loop, ints, intss, int, bool, row, frac, fracs, ← List.map_take, ← List.map_drop, fracss, kOut, tick, hTl, frow, frac, hk, hkT, hkm, hwk, hlx, hx', hsl, hso, hmin, splAW]
        done
      | true =>
        have hp' : ∀ i, i < k + 1 → (subF (cel0 T i (at0 l i).toNat) w).2 = true := fun i hi => by
          by_cases e : i = k
          · subst e; rw [hc]; exact hb
          · exact hp i (by omega)
        rw [hb] at hmin
        have hset2 : ((T[k]).2.map frac).set x (.agg [.v (.int .i64 (subF (T[k]).2[x] w).1.1), .v (.int .i64 (subF (T[k]).2[x] w).1.2)]) = (((T[k]).2.set x (subF (T[k]).2[x] w).1).map frac) := by rw [List.map_set]; rfl
        generalize (T[k]).2.set x (subF (T[k]).2[x] w).1 = row' at *
        simp (config := {maxSteps := 1000000}) [List.range, List.range.loop, ints, intss, int, bool, row, frac, fracs, ← List.map_take, ← List.map_drop, fracss, kOut, tick, hTl, frow, frac, hk, hkT, hkm, hwk, hlx, hx', hsl, hsl2, hso, hmin, hset2, hset, hrk1]
        exact hp'
    intro hp
    have hsub : subOk T l (lstF T l) = true := allR_yes fun i hi => hp i (by omega)
    obtain ⟨hnx, hdec⟩ := spl_next hok he hsub
    rw [hsT]
    have hsn := tk_snoc (out := ([] : List Tk)) (w := lstF T l) (l := l)
    have hb : 0 + 1 ≤ 4611686018427387904 ∧ (0 + 1) * 40 ≤ 140737488355328 := by omega
    have hne2 : ([] : List Tk) ++ [(lstF T l, false, l)] ≠ [] := by simp
    have hlo : (([] : List Tk) ++ [(lstF T l, false, l)]).length = 0 + 1 := by simp
    have hti : tick (lstF T l, false, l) = .agg [.v (.int .i64 (lstF T l).1), .v (.int .i64 (lstF T l).2), .sl false 1 (l.map int)] := rfl
    generalize ([] : List Tk) ++ [(lstF T l, false, l)] = out' at *
    try simp only [List.map_nil, List.nil_append] at hsn
    simp (config := {maxSteps := 1000000}) [List.range, List.range.loop, ints, intss, int, bool, row, frac, fracs, ← List.map_take, ← List.map_drop, fracss, kOut, hti, frac, htl, hto, hb, hb]
    refine ⟨⟨stepT T l, out', hnx, fun h => absurd h hne2⟩, ?_, hdec⟩
    simp only [tkA_ne hne2, tkT_ne hne2]
    simp [sub, slotsLe, clean, keep, refsL, refs, once, place, renL, ren, List.replicate, int, bool, fracss, hlo, hsn]
  · skip
    rw [tkA_ne hon,tkT_ne hon]
    simp (config := {maxSteps := 1000000}) [List.range, List.range.loop, ints, intss, int, bool, row, frac, fracs, ← List.map_take, ← List.map_drop, fracss, hTl, htk, htkn, hrkA, hidxm, hlr, hk00, hk0, hkf, hek, hllm, htl, hm0, row]
    refine awp_range (live := [true, false, true, true, true, true, true, true, true, true, true, true, false, false, true, false, false, false, false, true, false, false, false, false, false, false, true, false, false, false, false, false, false, false, false, false, false, false, false, false, true, true, true, true, false, false, false, false, false, false, false, false, false, false, false, false, false, false, false, false, false, true]) (ctx_ok eqOk hG) mixed [true, false, false, false, true, true, false, true, false, false, false, false, false, false, false, false, false, false, false, false, false, false, false, false, false, false, false, false, false, false, false, false, false, false, false, false, false, false, false, false, true, true, true] (l.length) (fun k => ∀ i, i < k → (subF (cel0 T i (at0 l i).toNat) (lstF T l)).2 = true) (fun k => ⟨[fracss nl m, .junk, .junk, .junk, .ptr 0 [] 0 0, .ref 1 [] 0 out.length, .junk, .ptr 2 [] 0 0, .junk, .junk, .junk, .junk, .junk, .junk, .junk, .junk, .junk, .junk, .junk, .junk, .junk, .junk, .junk, .junk, .junk, .junk, .junk, .junk, .junk, .junk, .junk, .junk, .junk, .junk, .junk, .junk, .junk, .junk, .junk, .junk, .ref 2 [(0, 2)] 0 l.length, int l.length, int k, .junk, .junk, .junk, .junk, .junk, .junk, .junk, .junk, .junk, .junk, .junk, .junk, .junk, .junk, .junk, .junk, .junk, .junk, .junk, .junk, .junk, .junk, .junk, .junk, .junk, .junk, .junk, .junk, .junk, .junk, .junk, .junk], [⟨true, .sl false 1 [.sl false 1 ((subTab T l (lstF T l) k).map frow)]⟩] ++ kOut out ++ [⟨true, .sl false 3 [tick (lstF T l, false, l)]⟩]⟩) ?_ (by simp [sub, slotsLe, clean, keep, refsL, refs, once, place, renL, ren, List.replicate, int, bool, fracss, kOut, tick, subTab_zero]) ?_ ?_ ?_
    · omega
    · intro i hi; omega
    · intro k hk hp hwk
      have hkT : k < T.length := by omega
      have hkm : k < m.length := by omega
      obtain ⟨x, ex, hx⟩ := rk_at hrk' hkT
      have hx' : x < (T[k]).2.length := by rw [(hts.row k hkT).2]; exact hx
      have hlx : l[k] = (x : Int) := by rw [← at0_eq hk]; exact ex
      have hc : cel0 T k (at0 l k).toNat = (T[k]).2[x] := by rw [ex, Int.toNat_natCast, cel0_at hkT hx']
      have hsl := subTab_len (m := T) (l := l) (w := lstF T l) (k := k)
      have hsl2 := subTab_len (m := T) (l := l) (w := lstF T l) (k := k + 1)
      have hso := fun h' => subTab_old (m := T) (l := l) (w := lstF T l) hkT h'
      have hset := subTab_set (m := T) (l := l) (w := lstF T l) hkT
      rw [hc, show (at0 l k).toNat = x by rw [ex]; rfl] at hset
      have hmin := mMinus_at (T[k]).2[x].1 (T[k]).2[x].2 (lstF T l).1 (lstF T l).2 hwok
      rw [show (((lstF T l).1, (lstF T l).2) : Int × Int) = lstF T l from rfl, show (((T[k]).2[x].1, (T[k]).2[x].2) : Int × Int) = (T[k]).2[x] from rfl] at hmin
      have hrk1 := (hts.row k hkT).1
      rw [hTl] at hsl hsl2
      clear hidxm hlr hsT
      generalize subTab T l (lstF T l) k = A at *
      generalize subTab T l (lstF T l) (k + 1) = B at *
      generalize lstF T l = w at *
      cases hb : (subF (T[k]).2[x] w).2 with
      | false =>
        have hf := hfail (fun q => by
          have := q k hkT
          rw [hc, hb] at this
          exact Bool.noConfusion this)
        subst hf
        rw [hb] at hmin
        simp (config := {maxSteps := 1000000}) [List.range, List.range.loop, ints, intss, int, bool, row, frac, fracs, ← List.map_take, ← List.map_drop, fracss, kOut, tick, hTl, frow, frac, hk, hkT, hkm, hwk, hlx, hx', hsl, hso, hmin, splAW]
        done
      | true =>
        have hp' : ∀ i, i < k + 1 → (subF (cel0 T i (at0 l i).toNat) w).2 = true := fun i hi => by
          by_cases e : i = k
          · subst e; rw [hc]; exact hb
          · exact hp i (by omega)
        rw [hb] at hmin
        have hset2 : ((T[k]).2.map frac).set x (.agg [.v (.int .i64 (subF (T[k]).2[x] w).1.1), .v (.int .i64 (subF (T[k]).2[x] w).1.2)]) = (((T[k]).2.set x (subF (T[k]).2[x] w).1).map frac) := by rw [List.map_set]; rfl
        generalize (T[k]).2.set x (subF (T[k]).2[x] w).1 = row' at *
        simp (config := {maxSteps := 1000000}) [List.range, List.range.loop, ints, intss, int, bool, row, frac, fracs, ← List.map_take, ← List.map_drop, fracss, kOut, tick, hTl, frow, frac, hk, hkT, hkm, hwk, hlx, hx', hsl, hsl2, hso, hmin, hset2, hset, hrk1]
        exact hp'
    intro hp
    have hsub : subOk T l (lstF T l) = true := allR_yes fun i hi => hp i (by omega)
    obtain ⟨hnx, hdec⟩ := spl_next hok he hsub
    rw [hsT]
    have hsn := tk_snoc (out := out) (w := lstF T l) (l := l)
    have hb : out.length + 1 ≤ 4611686018427387904 ∧ (out.length + 1) * 40 ≤ 140737488355328 := by omega
    have hne2 : out ++ [(lstF T l, false, l)] ≠ [] := by simp
    have hlo : (out ++ [(lstF T l, false, l)]).length = out.length + 1 := by simp
    have hti : tick (lstF T l, false, l) = .agg [.v (.int .i64 (lstF T l).1), .v (.int .i64 (lstF T l).2), .sl false 1 (l.map int)] := rfl
    generalize out ++ [(lstF T l, false, l)] = out' at *
    try simp only [List.map_nil, List.nil_append] at hsn
    simp (config := {maxSteps := 1000000}) [List.range, List.range.loop, ints, intss, int, bool, row, frac, fracs, ← List.map_take, ← List.map_drop, fracss, kOut, hti, frac, htl, hto, hb, hsn]
    refine ⟨⟨stepT T l, out', hnx, fun h => absurd h hne2⟩, ?_, hdec⟩
    simp only [tkA_ne hne2, tkT_ne hne2]
    simp [sub, slotsLe, clean, keep, refsL, refs, once, place, renL, ren, List.replicate, int, bool, fracss, hlo, hsn]
end Go.Proofs.YtkfmhpgnhkdebaaGreatDoor.Ax
