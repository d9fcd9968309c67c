/-
  The cakes' law: the walk; contract of the laws' sum. No condition.
-/
import Derived.Test.YtakladjlnkojjaaCG2
import Derived.Test.YtakladjlnkojjaaCG10
import Derived.Test.YtakladjlnkojjaaCG11
import Derived.Test.YtakladjlnkojjaaCG9
namespace Go.Proofs.Ytakladjlnkojjaa.Ax
open Go Go.RowKit
set_option linter.unusedSimpArgs false

theorem lawSum_ok : FnOk Try.prog 35 mSum := by
  refine mk_ok fun ⟨nl, xs⟩ _ => ?_
  have hG : FnsOk Try.prog [] := .nil
  refine callOk_awp (ctx_ok eqOk hG) mixed (live := [true, false, true, true, false, true, true, true, true, true]) (dt := []) Try.func35 rfl (by kernel_rfl) (by kernel_rfl) fun w0 hlens => ?_
  have hl : xs.length ≤ 9223372036854775807 := (lens_ints.1 hlens.1).1
  clear hlens
  simp [Try.f35, List.range, List.range.loop, ints, intss, int, bool, row, frac, fracs, ← List.map_take, ← List.map_drop]
  refine awp_range (live := [true, false, true, true, false, true, true, true, true, true]) (ctx_ok eqOk hG) mixed [false, false, false, true, false, false, true, true, true] (xs.length) (fun k => True) (fun k => ⟨[.junk, .junk, .junk, int (sumW (xs.take k)), .junk, .junk, ints nl xs, int xs.length, int k, .junk, .junk, .junk, .junk, .junk, .junk, .junk, .junk], []⟩) ?_ (by simp [sub, slotsLe, clean, keep, refsL, refs, once, place, renL, ren, List.replicate, int, bool, ints, sumW]) ?_ ?_ ?_
  · exact hl
  · trivial
  · intro k hk _ hwk
    simp [List.range, List.range.loop, ints, intss, int, bool, row, frac, fracs, ← List.map_take, ← List.map_drop, hk, hwk, sumW_succ hk]
  · intro _
    simp [List.range, List.range.loop, ints, intss, int, bool, row, frac, fracs, ← List.map_take, ← List.map_drop]

set_option maxRecDepth 16000 in
set_option maxHeartbeats 8000000 in
theorem fnCakes_call {nl : Bool} {by' : List Int} : CallOk Try.prog 5 [byts nl by'] (.v (.bool true)) := by
  have hG : FnsOk Try.prog [(29, mMkCake), (30, mKnife), (31, mAllD), (32, mCut), (33, mDiv), (34, mCalm), (35, mSum), (15, mMkNum), (36, mPiece), (37, mHasOuter), (38, mStripA)] := (.cons makeCake_ok (.cons implKnife_ok (.cons implAllDivisions_ok (.cons implCut_ok (.cons implIsDivision_ok (.cons implCountCalm_ok (.cons lawSum_ok (.cons makeNum_ok (.cons implPieceEnvy_ok (.cons implHasOuterEnvy_ok (.cons implStripA_ok .nil)))))))))))
  refine callOk_awp (ctx_ok eqOk hG) mixed (live := [true, false, true, true, true, true, true, true, true, true, true, true, true, true, true, true, true, true, true, false, false, true, false, false, false, false, false, false, false, false, false, false, false, false, false, false, false, false, false, false, false, false, false, false, false, false, false, false, false, false, false, false, false, false, false, false, false, false, false, false, false, false, false, false, false, false, false, false, false, false, false, false, false, false, false, true, false, false, true, false, false, false, false, false, true, true, true, true, false, false, false, false, false, false, false, false, false, false, false, true, false, false, false, false, false, false, false, false, false, false, false, false, false, false, false, false, false, false, false, true, false, true, false, false, true, true, true, true, false, false, false, false, false, false, false, true, false, false, false, false, false, false, false, false, false, false, false, false, false, false, false, true]) (dt := [(38, ⟨[], [], []⟩)]) Try.func5 rfl (by kernel_rfl) (by kernel_rfl) fun w0 hlens => ?_
  by_cases hlen : by'.length ≤ 1048576
  · have m0 := mMkCake_at nl by' hlen
    have c1 : ¬ (1048576 : Int) < by'.length := by omega
    have c2 : ¬ 1048576 < by'.length := by omega
    have m5 : mMkNum [.sl nl 1 (by'.map bAV), .v (.int .i64 60)] = some (.v (.int .i64 (mkNum by' 60))) := mMkNum_at nl by' 60 ⟨hlen, by omega⟩
    have hnum := mkNum_bd (by' := by') (n := 60)
    obtain ⟨hr, hw7⟩ := mkCake_rect by'
    generalize mkNum by' 60 = num at *
    generalize mkCake by' = V at *
    clear hlens
    obtain ⟨kd, kl⟩ := knife_div hr
    have hn0 := rect_pos hr
    have hn3 : V.length = 1 ∨ V.length = 2 ∨ V.length = 3 := by have := (rect_len hr).1; omega
    have hw1 := (rect_len hr).2.2
    have m1 : mKnife [.sl false 1 (V.map row)] = some (.sl false 1 ((knL V).map int)) := by rw [mKnife_at, hr]; rfl
    have m2 : mAllD [.sl false 1 (V.map row)] = some (.sl false 1 ((divs V).map row)) := by rw [mAllD_at, hr]; rfl
    have m3 := mCut_at false V
    have hcalm := some_calm hr
    have m4 : mCalm [.sl false 1 (V.map row)] = some (.v (.int .i64 (calmTo V (divs V).length))) := by rw [mCalm_at, if_pos hr]
    have c4 : ¬ calmTo V (divs V).length < 1 := by omega
    have c4' : ¬ (calmTo V (divs V).length : Int) < 1 := by omega
    have hdl : 0 < (divs V).length := by
      have : calmTo V (divs V).length ≤ (divs V).length := Nat.le_trans List.countP_le_length (List.length_take_le _ _)
      omega
    have hdl0 : ¬ (divs V).length = 0 := by omega
    have hdl1 : ¬ divs V = [] := fun e => by rw [e] at hdl; simp at hdl
    have hdl2 : ¬ ((divs V).length : Int) = 0 := by omega
    have hshare := fun i (hi : i < V.length) => knife_share hr hi
    have hstrip := mStripA_at false V hr
    obtain ⟨v0, vs, hv⟩ : ∃ v0 vs, V = v0 :: vs := by
      cases h : V with
      | nil => rw [h] at hn0; simp at hn0
      | cons a l => exact ⟨a, l, rfl⟩
    have hg0 : V[0]'hn0 = v0 := by simp [hv]
    have hv0 : V[0]? = some v0 := by rw [hv]; rfl
    have hv1 : (V.map row)[0]? = some (row v0) := by rw [hv]; rfl
    have hwv : v0.2.length = wid V := by rw [hv]; rfl
    have hhd : (V.headD (true, [])) = v0 := by rw [hv]; rfl
    rw [hhd] at hstrip
    have hsum := fun (b : Bool) (r : List Int) => mSum_at b r
    obtain ⟨num', hj, hjl⟩ : ∃ j : Nat, num.tmod ((divs V).length : Int) = j ∧ j < (divs V).length := by
      rw [Int.tmod_eq_emod_of_nonneg hnum.1]
      have h1 := Int.emod_nonneg num (b := ((divs V).length : Int)) (by omega)
      have h2 := Int.emod_lt_of_pos num (b := ((divs V).length : Int)) (by omega)
      exact ⟨(num % ((divs V).length : Int)).toNat, by omega, by omega⟩
    have hj7 : (num' : Int) < 9223372036854775808 := by
      rw [← hj, Int.tmod_eq_emod_of_nonneg hnum.1]
      have h1 := Int.emod_nonneg num (b := ((divs V).length : Int)) (by omega)
      rw [Int.emod_def]
      have h3 : 0 ≤ ((divs V).length : Int) * (num / ((divs V).length : Int)) := Int.mul_nonneg (by omega) (Int.ediv_nonneg hnum.1 (by omega))
      omega
    have hjw : IntKind.i64.wrap (num' : Int) = num' := wrapI (by omega) (by omega)
    have hdl7 : (divs V)[num']? = some (divs V)[num'] := List.getElem?_eq_getElem hjl
    obtain ⟨hdf, hdd⟩ := divs_div hr (List.getElem_mem hjl)
    generalize hdv : (divs V)[num'] = dv at *
    have hpe := mPiece_at false V dv.1 dv.2
    rw [if_pos hdd] at hpe
    have hpn := peTo_nn (xss := V) (l := dv.2) V.length
    have hout := mHasOuter_at false V dv.1 dv.2
    have hdiv2 := mDiv_at false V dv.1 dv.2
    have hdivK := mDiv_at false V false (knL V)
    rw [hdd] at hdiv2 hout
    rw [kd] at hdivK
    have hn9 : (V.length : Int) ≤ 3 := by omega
    have wn1 : IntKind.i64.wrap ((V.length : Int) - 1) = (V.length : Int) - 1 := wrapI (by omega) (by omega)
    have hwo := fun i (hi : i < V.length) g (hg : g ≤ wid V) => woTo_bd hr hi (l := knL V) (v := (i : Int)) (m := g) hg
    have htop := fun i (hi : i < V.length) g (hg : g ≤ wid V) => topE_bd hr hi (m := g) hg
    have tk : (knL V).take (wid V) = knL V := List.take_of_length_le (by omega)
    have tv : v0.2.take (wid V) = v0.2 := List.take_of_length_le (by omega)
    have hsum0 := mSum_at v0.1 v0.2
    have hwl : wid V ≤ 10 := by omega
    generalize hK : knL V = K at *
    generalize hDs : divs V = Ds at *
    have tD : Ds.take Ds.length = Ds := List.take_length
    generalize hC : (cutL V).2 = C at *
    generalize hCn : (cutL V).1 = cn at *
    -- the loop over the people and what follows, for either number of people
    have hwid0 : 0 < wid V := by omega
    have hwid1 : ¬ wid V = 0 := by omega
    by_cases e2 : V.length = 2
    · obtain ⟨q1, q2, q3, q4, q5⟩ := cut_facts hr e2
      rw [hC] at q2 q3 q4 q5
      rw [hCn] at q1
      subst q1
      have e2i : (V.length : Int) = 2 := by omega
      have hC0 : 0 < C.length := by omega
      have t2 : V.take 2 = V := List.take_of_length_le (by omega)
      have hCi : (0 : Int) < wid V := by omega
      simp (config := {maxSteps := 1000000}) [Try.f5, List.range, List.range.loop, ints, intss, int, bool, row, frac, fracs, ← List.map_take, ← List.map_drop, byts, row, c1, c2, m0, m1, m2, m3, m4, c4, c4', hdl, hdl0, hdl1, hdl2, hv0, hv1, hg0, hwv, hn0, kl, q3, tk, t2, e2, e2i, hdivK, hCi, hCn, hwid0, hwid1]
      refine awp_range (live := [true, false, true, true, true, true, true, true, true, true, true, true, true, true, true, true, true, true, true, false, false, true, false, false, false, false, false, false, false, false, false, false, false, false, false, false, false, false, false, false, false, false, false, false, false, false, false, false, false, false, false, false, false, false, false, false, false, false, false, false, false, false, false, false, false, false, false, false, false, false, false, false, false, false, false, true, false, false, true, false, false, false, false, false, true, true, true, true, false, false, false, false, false, false, false, false, false, false, false, true, false, false, false, false, false, false, false, false, false, false, false, false, false, false, false, false, false, false, false, true, false, true, false, false, true, true, true, true, false, false, false, false, false, false, false, true, false, false, false, false, false, false, false, false, false, false, false, false, false, false, false, true]) (ctx_ok eqOk hG) mixed [true, false, false, true, true, true, true, true, true] (2) (fun i => True) (fun i => ⟨[.sl nl 1 (by'.map bAV), .junk, .junk, .ref 0 [] 0 2, int 2, .ref 1 [] 0 (wid V), .ref 2 [] 0 Ds.length, .ref 3 [] 0 (wid V), int i, .junk, .junk, .junk, .junk, .junk, .junk, .junk, .junk, .junk, .junk, .junk, .junk, .junk, .junk, .junk, .junk, .junk, .junk, .junk, .junk, .junk, .junk, .junk, .junk, .junk, .junk, .junk, .junk, .junk, .junk, .junk, .junk, .junk, .junk, .junk, .junk, .junk, .junk, .junk, .junk, .junk, .junk, .junk, .junk, .junk, .junk, .junk, .junk, .junk, .junk, .junk, .junk, .junk, .junk, .junk, .junk, .junk, .junk, .junk, .junk, .junk, .junk, .junk, .junk, .junk, .junk, .junk, .junk, .junk, .junk, .junk, .junk, .junk, .junk, .junk, .junk, .junk, .junk, .junk, .junk, .junk, .junk, .junk, .junk, .junk, .junk, .junk, .junk, .junk, .junk, .junk, .junk, .junk, .junk, .junk, .junk, .junk, .junk, .junk, .junk, .junk, .junk, .junk, .junk, .junk, .junk, .junk, .junk, .junk, .junk, .junk, .junk, .junk, .junk, .junk, .junk, .junk, .junk, .junk, .junk, .junk, .junk, .junk, .junk, .junk, .junk, .junk, .junk, .junk, .junk, .junk, .junk, .junk, .junk, .junk, .junk, .junk, .junk, .junk, .junk, .junk, .junk, .junk, .junk, .junk, .junk, .junk, .junk, .junk, .junk, .junk, .junk, .junk, .junk, .junk, .junk, .junk, .junk, .junk, .junk, .junk, .junk, .junk, .junk, .junk, .junk, .junk, .junk, .junk, .junk, .junk, .junk, .junk, .junk, .junk, .junk, .junk, .junk, .junk, .junk, .junk, .junk, .junk, .junk], [⟨true, .sl false 1 (V.map row)⟩, ⟨true, .sl false 1 (K.map int)⟩, ⟨true, .sl false 1 (Ds.map row)⟩, ⟨true, .sl false 1 (C.map int)⟩]⟩) ?_ (by simp [sub, slotsLe, clean, keep, refsL, refs, once, place, renL, ren, List.replicate, int, bool, row, byts, ints, kl, q3, e2]) ?_ ?_ ?_
      · omega
      · trivial
      · intro i hi _ hwi
        have hiV : i < V.length := by omega
        have hrw := (rect_row hr hiV).1
        have hiI : (i : Int) < 2 := by omega
        simp [List.range, List.range.loop, ints, intss, int, bool, row, frac, fracs, ← List.map_take, ← List.map_drop, row, hi, hiI, hiV, hrw, hwi, e2, t2]
        refine awp_range (live := [true, false, true, true, true, true, true, true, true, true, true, true, true, true, true, true, true, true, true, false, false, true, false, false, false, false, false, false, false, false, false, false, false, false, false, false, false, false, false, false, false, false, false, false, false, false, false, false, false, false, false, false, false, false, false, false, false, false, false, false, false, false, false, false, false, false, false, false, false, false, false, false, false, false, false, true, false, false, true, false, false, false, false, false, true, true, true, true, false, false, false, false, false, false, false, false, false, false, false, true, false, false, false, false, false, false, false, false, false, false, false, false, false, false, false, false, false, false, false, true, false, true, false, false, true, true, true, true, false, false, false, false, false, false, false, true, false, false, false, false, false, false, false, false, false, false, false, false, false, false, false, true]) (ctx_ok eqOk hG) mixed [true, false, false, true, true, true, true, true, true, true, true, false, false, false, false, false, false, false, false, false, false, false, false, false, false, false, false, false, false, false, false, false, false, false, false, false, false, false, false, false, false, false, false, false, false, false, false, false, false, false, false, false, false, false, false, false, false, false, false, false, false, false, false, false, false, false, false, false, false, false, false, false, false, false, false, false, false, false, false, false, false, false, false, false, true, true, true] (wid V) (fun g => True) (fun g => ⟨[.sl nl 1 (by'.map bAV), .junk, .junk, .ref 0 [] 0 2, int 2, .ref 1 [] 0 (wid V), .ref 2 [] 0 Ds.length, .ref 3 [] 0 (wid V), int i, int (woTo V K i (i : Int) g), int (topE V i g), .junk, .junk, .junk, .junk, .junk, .junk, .junk, .junk, .junk, .junk, .junk, .junk, .junk, .junk, .junk, .junk, .junk, .junk, .junk, .junk, .junk, .junk, .junk, .junk, .junk, .junk, .junk, .junk, .junk, .junk, .junk, .junk, .junk, .junk, .junk, .junk, .junk, .junk, .junk, .junk, .junk, .junk, .junk, .junk, .junk, .junk, .junk, .junk, .junk, .junk, .junk, .junk, .junk, .junk, .junk, .junk, .junk, .junk, .junk, .junk, .junk, .junk, .junk, .junk, .junk, .junk, .junk, .junk, .junk, .junk, .junk, .junk, .junk, .ref 0 [(i, 0)] 0 (wid V), int (wid V), int g, .junk, .junk, .junk, .junk, .junk, .junk, .junk, .junk, .junk, .junk, .junk, .junk, .junk, .junk, .junk, .junk, .junk, .junk, .junk, .junk, .junk, .junk, .junk, .junk, .junk, .junk, .junk, .junk, .junk, .junk, .junk, .junk, .junk, .junk, .junk, .junk, .junk, .junk, .junk, .junk, .junk, .junk, .junk, .junk, .junk, .junk, .junk, .junk, .junk, .junk, .junk, .junk, .junk, .junk, .junk, .junk, .junk, .junk, .junk, .junk, .junk, .junk, .junk, .junk, .junk, .junk, .junk, .junk, .junk, .junk, .junk, .junk, .junk, .junk, .junk, .junk, .junk, .junk, .junk, .junk, .junk, .junk, .junk, .junk, .junk, .junk, .junk, .junk, .junk, .junk, .junk, .junk, .junk, .junk, .junk, .junk, .junk, .junk, .junk, .junk, .junk, .junk, .junk, .junk, .junk, .junk], [⟨true, .sl false 1 (V.map row)⟩, ⟨true, .sl false 1 (K.map int)⟩, ⟨true, .sl false 1 (Ds.map row)⟩, ⟨true, .sl false 1 (C.map int)⟩]⟩) ?_ (by simp [sub, slotsLe, clean, keep, refsL, refs, once, place, renL, ren, List.replicate, int, bool, row, byts, ints, kl, q3, e2, woTo, topE, hrw]) ?_ ?_ ?_
        · omega
        · trivial
        · intro g hg _ hwg
          have hgr : g < V[i].2.length := by omega
          have hgK : g < K.length := by omega
          have hx : V[i].2[g]? = some (ent V i g) := by have := ent_get hiV (k := (g : Int)) (by simp; omega); simpa using this
          have hx2 : V[i].2[g] = ent V i g := (List.getElem?_eq_some_iff.1 hx).2
          have gK : K[g]? = some K[g] := List.getElem?_eq_getElem hgK
          have hw1 := (hwo i hiV (g + 1) (by omega)).2.2 g (by omega)
          rw [getD_at hgK] at hw1
          have hb := hwo i hiV g (by omega)
          have he := ent_bd hr hiV (k := g) hg
          have hwr : IntKind.i64.wrap (woTo V K i (i : Int) g + ent V i g) = woTo V K i (i : Int) g + ent V i g := wrapI (by omega) (by omega)
          have htp : topE V i (g + 1) = max (topE V i g) (ent V i g) := rfl
          by_cases hK1 : K[g] = (i : Int)
          · rw [if_pos hK1] at hw1
            simp [List.range, List.range.loop, ints, intss, int, bool, row, frac, fracs, ← List.map_take, ← List.map_drop, row, hg, hgr, hgK, hiV, hx, hx2, gK, hK1, hwg, hwr, hw1, htp, kl, hrw]
          · rw [if_neg hK1] at hw1
            have hKb : (K[g] == (i : Int)) = false := by simpa using hK1
            simp [List.range, List.range.loop, ints, intss, int, bool, row, frac, fracs, ← List.map_take, ← List.map_drop, row, hg, hgr, hgK, hiV, hx, hx2, gK, hK1, hKb, hwg, hw1, htp, kl, hrw]
        · intro _
          have hbO := hwo i hiV (wid V) (Nat.le_refl _)
          have hbT := htop i hiV (wid V) (Nat.le_refl _)
          have hS := sum_all hr hiV
          have hPb := pre_bd hr hiV (m := 0) (n := wid V) (by omega)
          rw [Nat.zero_add, show pre V i 0 = 0 from rfl] at hPb
          have hsh := hshare i hiV
          have hwoE : wo V K i (i : Int) = woTo V K i (i : Int) (wid V) := by unfold wo; rw [kl]
          rw [hwoE, ← hS] at hsh
          rw [← hS] at hPb
          have htk : List.take (wid V) V[i].2 = V[i].2 := List.take_of_length_le (by omega)
          have hsm := hsum V[i].1 V[i].2
          generalize woTo V K i (i : Int) (wid V) = own at *
          generalize topE V i (wid V) = top at *
          generalize sumW V[i].2 = S at *
          rw [e2i] at hsh
          have x1 : IntKind.i64.wrap (2 * own) = 2 * own := wrapI (by omega) (by omega)
          have x2 : IntKind.i64.wrap 1 = 1 := by decide
          have x3 : IntKind.i64.wrap 2 = 2 := by decide
          have x4 : IntKind.i64.wrap (2 * top) = 2 * top := wrapI (by omega) (by omega)
          have x5 : IntKind.i64.wrap (S - 2 * top) = S - 2 * top := wrapI (by omega) (by omega)
          have x6 : S - 2 * top ≤ 2 * own := by omega
          have x7 : ¬ 2 * own < S - 2 * top := by omega
          simp [List.range, List.range.loop, ints, intss, int, bool, row, frac, fracs, ← List.map_take, ← List.map_drop, row, hi, hiV, hrw, hwi, htk, hsm, t2, e2, e2i, x1, x2, x3, x4, x5, x6, x7]
      · intro _
        have h1V : 1 < V.length := by omega
        have hrw := (rect_row hr h1V).1
        have hd2 := mDiv_at false V false C
        rw [q2] at hd2
        have tC : List.take (wid V) C = C := List.take_of_length_le (by omega)
        have hz1 : ∀ v : Int, woTo V C 1 v 0 = 0 := fun _ => rfl
        simp [List.range, List.range.loop, ints, intss, int, bool, row, frac, fracs, ← List.map_take, ← List.map_drop, row, h1V, hrw, e2, e2i, t2]
        refine awp_range (live := [true, false, true, true, true, true, true, true, true, true, true, true, true, true, true, true, true, true, true, false, false, true, false, false, false, false, false, false, false, false, false, false, false, false, false, false, false, false, false, false, false, false, false, false, false, false, false, false, false, false, false, false, false, false, false, false, false, false, false, false, false, false, false, false, false, false, false, false, false, false, false, false, false, false, false, true, false, false, true, false, false, false, false, false, true, true, true, true, false, false, false, false, false, false, false, false, false, false, false, true, false, false, false, false, false, false, false, false, false, false, false, false, false, false, false, false, false, false, false, true, false, true, false, false, true, true, true, true, false, false, false, false, false, false, false, true, false, false, false, false, false, false, false, false, false, false, false, false, false, false, false, true]) (ctx_ok eqOk hG) mixed [true, false, false, true, false, false, true, true, false, false, false, false, false, true, true, false, false, false, false, false, false, false, false, false, false, false, false, false, false, false, false, false, false, false, false, false, false, false, false, false, false, false, false, false, false, false, false, false, false, false, false, false, false, false, false, false, false, false, false, false, false, false, false, false, false, false, false, false, false, false, false, false, false, false, false, false, false, false, false, false, false, false, false, false, false, false, false, false, false, false, false, false, false, false, false, false, false, false, false, false, false, false, false, false, false, false, false, false, false, false, false, false, false, false, false, false, false, false, false, false, false, false, false, false, true, true, true] (wid V) (fun g => True) (fun g => ⟨[.sl nl 1 (by'.map bAV), .junk, .junk, .ref 0 [] 0 2, .junk, .junk, .ref 1 [] 0 Ds.length, .ref 2 [] 0 (wid V), .junk, .junk, .junk, .junk, .junk, int (woTo V C 1 1 g), int (woTo V C 1 0 g), .junk, .junk, .junk, .junk, .junk, .junk, .junk, .junk, .junk, .junk, .junk, .junk, .junk, .junk, .junk, .junk, .junk, .junk, .junk, .junk, .junk, .junk, .junk, .junk, .junk, .junk, .junk, .junk, .junk, .junk, .junk, .junk, .junk, .junk, .junk, .junk, .junk, .junk, .junk, .junk, .junk, .junk, .junk, .junk, .junk, .junk, .junk, .junk, .junk, .junk, .junk, .junk, .junk, .junk, .junk, .junk, .junk, .junk, .junk, .junk, .junk, .junk, .junk, .junk, .junk, .junk, .junk, .junk, .junk, .junk, .junk, .junk, .junk, .junk, .junk, .junk, .junk, .junk, .junk, .junk, .junk, .junk, .junk, .junk, .junk, .junk, .junk, .junk, .junk, .junk, .junk, .junk, .junk, .junk, .junk, .junk, .junk, .junk, .junk, .junk, .junk, .junk, .junk, .junk, .junk, .junk, .junk, .junk, .junk, .ref 0 [(1, 0)] 0 (wid V), int (wid V), int g, .junk, .junk, .junk, .junk, .junk, .junk, .junk, .junk, .junk, .junk, .junk, .junk, .junk, .junk, .junk, .junk, .junk, .junk, .junk, .junk, .junk, .junk, .junk, .junk, .junk, .junk, .junk, .junk, .junk, .junk, .junk, .junk, .junk, .junk, .junk, .junk, .junk, .junk, .junk, .junk, .junk, .junk, .junk, .junk, .junk, .junk, .junk, .junk, .junk, .junk, .junk, .junk, .junk, .junk, .junk, .junk, .junk, .junk, .junk, .junk, .junk, .junk, .junk, .junk, .junk, .junk], [⟨true, .sl false 1 (V.map row)⟩, ⟨true, .sl false 1 (Ds.map row)⟩, ⟨true, .sl false 1 (C.map int)⟩]⟩) ?_ (by simp [sub, slotsLe, clean, keep, refsL, refs, once, place, renL, ren, List.replicate, int, bool, row, byts, ints, kl, q3, e2, hz1, hrw]) ?_ ?_ ?_
        · omega
        · trivial
        · intro g hg _ hwg
          have hgr : g < V[1].2.length := by omega
          have hgC : g < C.length := by omega
          have hx : V[1].2[g]? = some (ent V 1 g) := by have := ent_get h1V (k := (g : Int)) (by simp; omega); simpa using this
          have hx2 : V[1].2[g] = ent V 1 g := (List.getElem?_eq_some_iff.1 hx).2
          have gC : C[g]? = some C[g] := List.getElem?_eq_getElem hgC
          have b1 := woTo_bd hr h1V (l := C) (v := 1) (m := g + 1) (by omega)
          have b0 := woTo_bd hr h1V (l := C) (v := 0) (m := g + 1) (by omega)
          have c1' := woTo_bd hr h1V (l := C) (v := 1) (m := g) (by omega)
          have c0' := woTo_bd hr h1V (l := C) (v := 0) (m := g) (by omega)
          have s1 := b1.2.2 g (by omega)
          have s0 := b0.2.2 g (by omega)
          rw [getD_at hgC] at s1 s0
          have he := ent_bd hr h1V (k := g) hg
          rcases q5 _ (List.getElem_mem hgC) with hC1 | hC1
          · rw [hC1] at s1 s0
            rw [if_neg (by decide)] at s1
            rw [if_pos rfl] at s0
            have hwr : IntKind.i64.wrap (woTo V C 1 0 g + ent V 1 g) = woTo V C 1 0 g + ent V 1 g := wrapI (by omega) (by omega)
            simp [List.range, List.range.loop, ints, intss, int, bool, row, frac, fracs, ← List.map_take, ← List.map_drop, row, hg, hgr, hgC, h1V, hx, hx2, gC, hC1, hwg, hwr, s1, s0, q3, hrw]
          · rw [hC1] at s1 s0
            rw [if_pos rfl] at s1
            rw [if_neg (by decide)] at s0
            have hwr : IntKind.i64.wrap (woTo V C 1 1 g + ent V 1 g) = woTo V C 1 1 g + ent V 1 g := wrapI (by omega) (by omega)
            simp [List.range, List.range.loop, ints, intss, int, bool, row, frac, fracs, ← List.map_take, ← List.map_drop, row, hg, hgr, hgC, h1V, hx, hx2, gC, hC1, hwg, hwr, s1, s0, q3, hrw]
        · intro _
          have hwc : ∀ v : Int, wo V C 1 v = woTo V C 1 v (wid V) := fun v => by unfold wo; rw [q3]
          rw [hwc, hwc] at q4
          have q4n : ¬ woTo V C 1 1 (wid V) < woTo V C 1 0 (wid V) := by omega
          have dl : dv.2.length = wid V := (div_rect hdd).2
          have tdv : List.take (wid V) dv.2 = dv.2 := List.take_of_length_le (by omega)
          by_cases hpp : 0 < peTo V dv.2 V.length
          · rw [e2] at hpp hpe hpn
            simp (config := {maxSteps := 1000000}) [List.range, List.range.loop, ints, intss, int, bool, row, frac, fracs, ← List.map_take, ← List.map_drop, row, byts, m5, hdl0, hdl1, hdl2, hj, hjl, hjw, hdv, hdl7, tD, dl, tdv, hpe, hdiv2, hpn, hpp, hstrip, hsum0, hv0, hg0, hwv, hn0, tv, t2, e2, e2i, q3, tC, hd2, q4, q4n, hwid0, hwid1]
          · have he := pe_env hdd hpp
            rw [he] at hout
            have hpz : peTo V dv.2 V.length = 0 := by omega
            rw [e2] at hpz hpe hpn
            simp (config := {maxSteps := 1000000}) [List.range, List.range.loop, ints, intss, int, bool, row, frac, fracs, ← List.map_take, ← List.map_drop, row, byts, m5, hdl0, hdl1, hdl2, hj, hjl, hjw, hdv, hdl7, tD, dl, tdv, hpe, hdiv2, hpz, hout, hstrip, hsum0, hv0, hg0, hwv, hn0, tv, t2, e2, e2i, q3, tC, hd2, q4, q4n, hwid0, hwid1]
    · have e2i : ¬ (V.length : Int) = 2 := by omega
      have q := cutL_no (xss := V) (.inr e2)
      rw [Prod.ext_iff, hC, hCn] at q
      obtain ⟨rfl, rfl⟩ := q
      simp only [List.map_nil] at m3
      have e2b : ((V.length : Int) == 2) = false := by simpa using e2i
      have q3 : True := trivial
      have t2 : V.take V.length = V := List.take_length
      simp (config := {maxSteps := 1000000}) [Try.f5, List.range, List.range.loop, ints, intss, int, bool, row, frac, fracs, ← List.map_take, ← List.map_drop, byts, row, c1, c2, m0, m1, m2, m3, m4, c4, c4', hdl, hdl0, hdl1, hdl2, hv0, hv1, hg0, hwv, hn0, kl, tk, e2, e2i, e2b, hdivK, hCn]
      refine awp_range (live := [true, false, true, true, true, true, true, true, true, true, true, true, true, true, true, true, true, true, true, false, false, true, false, false, false, false, false, false, false, false, false, false, false, false, false, false, false, false, false, false, false, false, false, false, false, false, false, false, false, false, false, false, false, false, false, false, false, false, false, false, false, false, false, false, false, false, false, false, false, false, false, false, false, false, false, true, false, false, true, false, false, false, false, false, true, true, true, true, false, false, false, false, false, false, false, false, false, false, false, true, false, false, false, false, false, false, false, false, false, false, false, false, false, false, false, false, false, false, false, true, false, true, false, false, true, true, true, true, false, false, false, false, false, false, false, true, false, false, false, false, false, false, false, false, false, false, false, false, false, false, false, true]) (ctx_ok eqOk hG) mixed [true, false, false, true, true, true, true, true, true] (V.length) (fun i => True) (fun i => ⟨[.sl nl 1 (by'.map bAV), .junk, .junk, .ref 0 [] 0 V.length, int V.length, .ref 1 [] 0 (wid V), .ref 2 [] 0 Ds.length, .ref 3 [] 0 0, int i, .junk, .junk, .junk, .junk, .junk, .junk, .junk, .junk, .junk, .junk, .junk, .junk, .junk, .junk, .junk, .junk, .junk, .junk, .junk, .junk, .junk, .junk, .junk, .junk, .junk, .junk, .junk, .junk, .junk, .junk, .junk, .junk, .junk, .junk, .junk, .junk, .junk, .junk, .junk, .junk, .junk, .junk, .junk, .junk, .junk, .junk, .junk, .junk, .junk, .junk, .junk, .junk, .junk, .junk, .junk, .junk, .junk, .junk, .junk, .junk, .junk, .junk, .junk, .junk, .junk, .junk, .junk, .junk, .junk, .junk, .junk, .junk, .junk, .junk, .junk, .junk, .junk, .junk, .junk, .junk, .junk, .junk, .junk, .junk, .junk, .junk, .junk, .junk, .junk, .junk, .junk, .junk, .junk, .junk, .junk, .junk, .junk, .junk, .junk, .junk, .junk, .junk, .junk, .junk, .junk, .junk, .junk, .junk, .junk, .junk, .junk, .junk, .junk, .junk, .junk, .junk, .junk, .junk, .junk, .junk, .junk, .junk, .junk, .junk, .junk, .junk, .junk, .junk, .junk, .junk, .junk, .junk, .junk, .junk, .junk, .junk, .junk, .junk, .junk, .junk, .junk, .junk, .junk, .junk, .junk, .junk, .junk, .junk, .junk, .junk, .junk, .junk, .junk, .junk, .junk, .junk, .junk, .junk, .junk, .junk, .junk, .junk, .junk, .junk, .junk, .junk, .junk, .junk, .junk, .junk, .junk, .junk, .junk, .junk, .junk, .junk, .junk, .junk, .junk, .junk, .junk, .junk, .junk, .junk], [⟨true, .sl false 1 (V.map row)⟩, ⟨true, .sl false 1 (K.map int)⟩, ⟨true, .sl false 1 (Ds.map row)⟩, ⟨true, .sl true 1 []⟩]⟩) ?_ (by simp [sub, slotsLe, clean, keep, refsL, refs, once, place, renL, ren, List.replicate, int, bool, row, byts, ints, kl, q3, e2]) ?_ ?_ ?_
      · omega
      · trivial
      · intro i hi _ hwi
        have hiV : i < V.length := by omega
        have hrw := (rect_row hr hiV).1
        have hiI : (i : Int) < V.length := by omega
        simp [List.range, List.range.loop, ints, intss, int, bool, row, frac, fracs, ← List.map_take, ← List.map_drop, row, hi, hiI, hiV, hrw, hwi, e2, t2]
        refine awp_range (live := [true, false, true, true, true, true, true, true, true, true, true, true, true, true, true, true, true, true, true, false, false, true, false, false, false, false, false, false, false, false, false, false, false, false, false, false, false, false, false, false, false, false, false, false, false, false, false, false, false, false, false, false, false, false, false, false, false, false, false, false, false, false, false, false, false, false, false, false, false, false, false, false, false, false, false, true, false, false, true, false, false, false, false, false, true, true, true, true, false, false, false, false, false, false, false, false, false, false, false, true, false, false, false, false, false, false, false, false, false, false, false, false, false, false, false, false, false, false, false, true, false, true, false, false, true, true, true, true, false, false, false, false, false, false, false, true, false, false, false, false, false, false, false, false, false, false, false, false, false, false, false, true]) (ctx_ok eqOk hG) mixed [true, false, false, true, true, true, true, true, true, true, true, false, false, false, false, false, false, false, false, false, false, false, false, false, false, false, false, false, false, false, false, false, false, false, false, false, false, false, false, false, false, false, false, false, false, false, false, false, false, false, false, false, false, false, false, false, false, false, false, false, false, false, false, false, false, false, false, false, false, false, false, false, false, false, false, false, false, false, false, false, false, false, false, false, true, true, true] (wid V) (fun g => True) (fun g => ⟨[.sl nl 1 (by'.map bAV), .junk, .junk, .ref 0 [] 0 V.length, int V.length, .ref 1 [] 0 (wid V), .ref 2 [] 0 Ds.length, .ref 3 [] 0 0, int i, int (woTo V K i (i : Int) g), int (topE V i g), .junk, .junk, .junk, .junk, .junk, .junk, .junk, .junk, .junk, .junk, .junk, .junk, .junk, .junk, .junk, .junk, .junk, .junk, .junk, .junk, .junk, .junk, .junk, .junk, .junk, .junk, .junk, .junk, .junk, .junk, .junk, .junk, .junk, .junk, .junk, .junk, .junk, .junk, .junk, .junk, .junk, .junk, .junk, .junk, .junk, .junk, .junk, .junk, .junk, .junk, .junk, .junk, .junk, .junk, .junk, .junk, .junk, .junk, .junk, .junk, .junk, .junk, .junk, .junk, .junk, .junk, .junk, .junk, .junk, .junk, .junk, .junk, .junk, .ref 0 [(i, 0)] 0 (wid V), int (wid V), int g, .junk, .junk, .junk, .junk, .junk, .junk, .junk, .junk, .junk, .junk, .junk, .junk, .junk, .junk, .junk, .junk, .junk, .junk, .junk, .junk, .junk, .junk, .junk, .junk, .junk, .junk, .junk, .junk, .junk, .junk, .junk, .junk, .junk, .junk, .junk, .junk, .junk, .junk, .junk, .junk, .junk, .junk, .junk, .junk, .junk, .junk, .junk, .junk, .junk, .junk, .junk, .junk, .junk, .junk, .junk, .junk, .junk, .junk, .junk, .junk, .junk, .junk, .junk, .junk, .junk, .junk, .junk, .junk, .junk, .junk, .junk, .junk, .junk, .junk, .junk, .junk, .junk, .junk, .junk, .junk, .junk, .junk, .junk, .junk, .junk, .junk, .junk, .junk, .junk, .junk, .junk, .junk, .junk, .junk, .junk, .junk, .junk, .junk, .junk, .junk, .junk, .junk, .junk, .junk, .junk, .junk], [⟨true, .sl false 1 (V.map row)⟩, ⟨true, .sl false 1 (K.map int)⟩, ⟨true, .sl false 1 (Ds.map row)⟩, ⟨true, .sl true 1 []⟩]⟩) ?_ (by simp [sub, slotsLe, clean, keep, refsL, refs, once, place, renL, ren, List.replicate, int, bool, row, byts, ints, kl, q3, e2, woTo, topE, hrw]) ?_ ?_ ?_
        · omega
        · trivial
        · intro g hg _ hwg
          have hgr : g < V[i].2.length := by omega
          have hgK : g < K.length := by omega
          have hx : V[i].2[g]? = some (ent V i g) := by have := ent_get hiV (k := (g : Int)) (by simp; omega); simpa using this
          have hx2 : V[i].2[g] = ent V i g := (List.getElem?_eq_some_iff.1 hx).2
          have gK : K[g]? = some K[g] := List.getElem?_eq_getElem hgK
          have hw1 := (hwo i hiV (g + 1) (by omega)).2.2 g (by omega)
          rw [getD_at hgK] at hw1
          have hb := hwo i hiV g (by omega)
          have he := ent_bd hr hiV (k := g) hg
          have hwr : IntKind.i64.wrap (woTo V K i (i : Int) g + ent V i g) = woTo V K i (i : Int) g + ent V i g := wrapI (by omega) (by omega)
          have htp : topE V i (g + 1) = max (topE V i g) (ent V i g) := rfl
          by_cases hK1 : K[g] = (i : Int)
          · rw [if_pos hK1] at hw1
            simp [List.range, List.range.loop, ints, intss, int, bool, row, frac, fracs, ← List.map_take, ← List.map_drop, row, hg, hgr, hgK, hiV, hx, hx2, gK, hK1, hwg, hwr, hw1, htp, kl, hrw]
          · rw [if_neg hK1] at hw1
            have hKb : (K[g] == (i : Int)) = false := by simpa using hK1
            simp [List.range, List.range.loop, ints, intss, int, bool, row, frac, fracs, ← List.map_take, ← List.map_drop, row, hg, hgr, hgK, hiV, hx, hx2, gK, hK1, hKb, hwg, hw1, htp, kl, hrw]
        · intro _
          have hbO := hwo i hiV (wid V) (Nat.le_refl _)
          have hbT := htop i hiV (wid V) (Nat.le_refl _)
          have hS := sum_all hr hiV
          have hPb := pre_bd hr hiV (m := 0) (n := wid V) (by omega)
          rw [Nat.zero_add, show pre V i 0 = 0 from rfl] at hPb
          have hsh := hshare i hiV
          have hwoE : wo V K i (i : Int) = woTo V K i (i : Int) (wid V) := by unfold wo; rw [kl]
          rw [hwoE, ← hS] at hsh
          rw [← hS] at hPb
          have htk : List.take (wid V) V[i].2 = V[i].2 := List.take_of_length_le (by omega)
          have hsm := hsum V[i].1 V[i].2
          generalize woTo V K i (i : Int) (wid V) = own at *
          generalize topE V i (wid V) = top at *
          generalize sumW V[i].2 = S at *
          have x1 : IntKind.i64.wrap ((V.length : Int) * own) = V.length * own := by rcases hn3 with e | e | e <;> rw [e] <;> exact wrapI (by omega) (by omega)
          have x3 : IntKind.i64.wrap ((V.length : Int) * ((V.length : Int) - 1)) = V.length * ((V.length : Int) - 1) := by rcases hn3 with e | e | e <;> rw [e] <;> decide
          have x4 : IntKind.i64.wrap ((V.length : Int) * ((V.length : Int) - 1) * top) = V.length * ((V.length : Int) - 1) * top := by rcases hn3 with e | e | e <;> rw [e] <;> exact wrapI (by omega) (by omega)
          have x5 : IntKind.i64.wrap (S - (V.length : Int) * ((V.length : Int) - 1) * top) = S - V.length * ((V.length : Int) - 1) * top := by rcases hn3 with e | e | e <;> rw [e] <;> exact wrapI (by omega) (by omega)
          have x7 : ¬ (V.length : Int) * own < S - V.length * ((V.length : Int) - 1) * top := by omega
          simp [List.range, List.range.loop, ints, intss, int, bool, row, frac, fracs, ← List.map_take, ← List.map_drop, row, hi, hiV, hrw, hwi, htk, hsm, t2, wn1, x1, x3, x4, x5, hsh, x7]
      · intro _
        have dl : dv.2.length = wid V := (div_rect hdd).2
        have tdv : List.take (wid V) dv.2 = dv.2 := List.take_of_length_le (by omega)
        by_cases hpp : 0 < peTo V dv.2 V.length
        · simp (config := {maxSteps := 1000000}) [List.range, List.range.loop, ints, intss, int, bool, row, frac, fracs, ← List.map_take, ← List.map_drop, row, byts, m5, hdl0, hdl1, hdl2, hj, hjl, hjw, hdv, hdl7, tD, dl, tdv, hpe, hdiv2, hpn, hpp, hstrip, hsum0, hv0, hg0, hwv, hn0, tv, t2, e2, e2i, e2b, hwid0, hwid1]
        · have he := pe_env hdd hpp
          rw [he] at hout
          have hpz : peTo V dv.2 V.length = 0 := by omega
          simp (config := {maxSteps := 1000000}) [List.range, List.range.loop, ints, intss, int, bool, row, frac, fracs, ← List.map_take, ← List.map_drop, row, byts, m5, hdl0, hdl1, hdl2, hj, hjl, hjw, hdv, hdl7, tD, dl, tdv, hpe, hdiv2, hpz, hout, hstrip, hsum0, hv0, hg0, hwv, hn0, tv, t2, e2, e2i, e2b, hwid0, hwid1]
  · have c1 : (1048576 : Int) < by'.length := by omega
    have c2 : 1048576 < by'.length := by omega
    simp [Try.f5, List.range, List.range.loop, ints, intss, int, bool, row, frac, fracs, ← List.map_take, ← List.map_drop, byts, c1, c2]

end Go.Proofs.Ytakladjlnkojjaa.Ax
