/-
  The auctions' law: the walk. No condition.
-/
import Derived.Test.YtakladjlnkojjaaCG197
namespace Go.Proofs.Ytakladjlnkojjaa.Ax
open Go Go.RowKit
set_option linter.unusedSimpArgs false

set_option maxRecDepth 16000 in
set_option maxHeartbeats 8000000 in
theorem fnAuctions_call {nl : Bool} {by' : List Int} : CallOk Try.prog 3 [byts nl by'] (.v (.bool true)) := by
  have hG : FnsOk Try.prog [(6, mMkBids), (7, mBestAward), (8, mPayments), (9, mPrices), (10, mBestWorth), (11, mAwardOk), (12, mAwardOk), (13, mAwWorth), (14, mMarket), (15, mMkNum), (16, mGainW), (17, mWithout), (18, mSecond)] := (.cons makeBids_ok (.cons implBestAward_ok (.cons implPayments_ok (.cons implPrices_ok (.cons implBestWorth_ok (.cons specAwardOk_ok (.cons implAwardOk_ok (.cons implAwardWorth_ok (.cons implIsMarket_ok (.cons makeNum_ok (.cons implGainW_ok (.cons implWithout_ok (.cons implSecondPrice_ok .nil)))))))))))))
  refine callOk_awp (ctx_ok eqOk hG) mixed (live := [true, false, true, true, true, true, true, true, true, true, true, true, true, true, true, true, true, true, true, true, true, true, false, false, true, false, false, false, false, false, false, false, false, false, false, false, false, false, false, false, false, false, false, false, false, false, false, false, false, false, false, false, false, false, false, false, false, false, false, false, false, false, false, false, false, false, false, false, false, false, false, false, true, false, false, false, false, false, false, false, false, true, true, true, false, false, false, false, false, false, false, false, false, false, false, false, false, false, false, false, false, false, false, false, false, false, false, false, false, false, false, false, false, false, false, false, false, false, false, false, false, false, false, false, false, false, false, false, false, false, false, false, false, false, false, true, true, true, true, true, false, false, false, false, false, false, false, false, false, false, false, false, false, false, false, false, false, false, false, false, false, false, false, false, false, false, false, false, false, false, false, false, false, false, false, false, true, false, false, false, false, false, false, false, false, false, false, false, false, false, true, true, true, true, true, false, false, false, false, false, false, false, false, false, false, false, false, false, false, false, false, false, false, false, false, false, false, false, false, false, false, false, false, false, false, false, true]) (dt := [(25, ⟨[], [], []⟩)]) Try.func3 rfl (by kernel_rfl) (by kernel_rfl) fun w0 hlens => ?_
  by_cases hlen : by'.length ≤ 1048576
  · obtain ⟨A, P, T, W, hAl, hPl, m1, m2, m3, m4, hA, hM, hW, hW0, hP⟩ := auc_facts by'
    have m0 := mMkBids_at nl by' hlen
    have c1 : ¬ (1048576 : Int) < by'.length := by omega
    have c2 : ¬ 1048576 < by'.length := by omega
    have hVl : (mkBids by').length = A.length := hAl.symm
    have htP : P.take A.length = P := by rw [← hPl]; exact List.take_length
    have htV : (mkBids by').take A.length = mkBids by' := by rw [hAl]; exact List.take_length
    have htV2 : ((mkBids by').map row).take A.length = (mkBids by').map row := by rw [← List.map_take, htV]
    have hA1 : 1 ≤ A.length := by have := (rect_len (mkBids_rect by').1).2.2; have := rect_pos (mkBids_rect by').1; omega
    have hA0 : (A.length : Int) ≠ 0 := by omega
    have hA00 : A.length ≠ 0 := by omega
    have hA000 : A ≠ [] := by intro e; simp [e] at hA1
    have m5 : mMkNum [.sl nl 1 (by'.map bAV), .v (.int .i64 60)] = some (.v (.int .i64 (mkNum by' 60))) := mMkNum_at nl by' 60 ⟨hlen, by omega⟩
    obtain ⟨ii, hii, hil⟩ : ∃ ii : Nat, (mkNum by' 60).tmod (A.length : Int) = ii ∧ ii < A.length := by
      have h0 := mkNum_bd (by' := by') (n := 60)
      rw [Int.tmod_eq_emod_of_nonneg h0.1]
      have h1 := Int.emod_nonneg (mkNum by' 60) hA0
      have h2 := Int.emod_lt_of_pos (mkNum by' 60) (b := (A.length : Int)) (by omega)
      exact ⟨((mkNum by' 60) % (A.length : Int)).toNat, by omega, by omega⟩
    have hwr : IntKind.i64.wrap ((ii : Nat) : Int) = ii := wrapI (by omega) (by have := (mkBids_rect by').2.1; omega)
    obtain ⟨v0, vs, hv⟩ : ∃ v0 vs, mkBids by' = v0 :: vs := by
      cases h : mkBids by' with
      | nil => rw [h] at hVl; simp at hVl; omega
      | cons a l => exact ⟨a, l, rfl⟩
    have hw0 : (mkBids by')[0]? = some v0 := by rw [hv]; rfl
    have hlt0 : 0 < A.length := hA1
    have hg0 : (mkBids by')[0]'(by omega) = v0 := by simp [hv]
    have hw1 : ((mkBids by').map row)[0]? = some (row v0) := by rw [hv]; rfl
    clear hlens
    simp (config := {maxSteps := 1000000}) [Try.f3, List.range, List.range.loop, ints, intss, int, bool, row, frac, fracs, ← List.map_take, ← List.map_drop, byts, c1, c2, m0, m1, m2, m3, m4, mAwardOk_at, mMarket_at, mAwWorth_at, hA, hM, hW, hVl, hPl, htP, htV, htV2, hA0, hA00, hA000, m5, hii, hwr, hw0, hw1, hg0, hlt0, row]
    have hz : othT by' 0 = [] := rfl
    have hwv : v0.2.length = wid (mkBids by') := by rw [hv]; rfl
    have hw3 := (mkBids_rect by').2.2
    refine awp_range (live := [true, false, true, true, true, true, true, true, true, true, true, true, true, true, true, true, true, true, true, true, true, true, false, false, true, false, false, false, false, false, false, false, false, false, false, false, false, false, false, false, false, false, false, false, false, false, false, false, false, false, false, false, false, false, false, false, false, false, false, false, false, false, false, false, false, false, false, false, false, false, false, false, true, false, false, false, false, false, false, false, false, true, true, true, false, false, false, false, false, false, false, false, false, false, false, false, false, false, false, false, false, false, false, false, false, false, false, false, false, false, false, false, false, false, false, false, false, false, false, false, false, false, false, false, false, false, false, false, false, false, false, false, false, false, false, true, true, true, true, true, false, false, false, false, false, false, false, false, false, false, false, false, false, false, false, false, false, false, false, false, false, false, false, false, false, false, false, false, false, false, false, false, false, false, false, false, true, false, false, false, false, false, false, false, false, false, false, false, false, false, true, true, true, true, true, false, false, false, false, false, false, false, false, false, false, false, false, false, false, false, false, false, false, false, false, false, false, false, false, false, false, false, false, false, false, false, true]) (ctx_ok eqOk hG) mixed [true, false, false, true, false, true, true, false, true, true, true, false, false, false, false, false, false, false, false, false, false, false, false, false, false, false, false, false, false, false, false, false, false, false, false, false, false, false, false, false, false, false, false, false, false, false, false, false, false, false, false, false, false, false, false, false, false, false, false, false, false, false, false, false, false, false, false, false, false, false, false, false, false, false, false, false, false, false, false, false, false, true, true] (v0.2.length) (fun k => True) (fun k => ⟨[byts nl by', .junk, .junk, .ref 0 [] 0 A.length, .junk, .ref 1 [] 0 A.length, .ref 2 [] 0 A.length, .junk, int W, int (ii : Int), .ref 3 [] 0 k, .junk, .junk, .junk, .junk, .junk, .junk, .junk, .junk, .junk, .junk, .junk, .junk, .junk, .junk, .junk, .junk, .junk, .junk, .junk, .junk, .junk, .junk, .junk, .junk, .junk, .junk, .junk, .junk, .junk, .junk, .junk, .junk, .junk, .junk, .junk, .junk, .junk, .junk, .junk, .junk, .junk, .junk, .junk, .junk, .junk, .junk, .junk, .junk, .junk, .junk, .junk, .junk, .junk, .junk, .junk, .junk, .junk, .junk, .junk, .junk, .junk, .junk, .junk, .junk, .junk, .junk, .junk, .junk, .junk, .junk, int v0.2.length, int k, .junk, .junk, .junk, .junk, .junk, .junk, .junk, .junk, .junk, .junk, .junk, .junk, .junk, .junk, .junk, .junk, .junk, .junk, .junk, .junk, .junk, .junk, .junk, .junk, .junk, .junk, .junk, .junk, .junk, .junk, .junk, .junk, .junk, .junk, .junk, .junk, .junk, .junk, .junk, .junk, .junk, .junk, .junk, .junk, .junk, .junk, .junk, .junk, .junk, .junk, .junk, .junk, .junk, .junk, .junk, .junk, .junk, .junk, .junk, .junk, .junk, .junk, .junk, .junk, .junk, .junk, .junk, .junk, .junk, .junk, .junk, .junk, .junk, .junk, .junk, .junk, .junk, .junk, .junk, .junk, .junk, .junk, .junk, .junk, .junk, .junk, .junk, .junk, .junk, .junk, .junk, .junk, .junk, .junk, .junk, .junk, .junk, .junk, .junk, .junk, .junk, .junk, .junk, .junk, .junk, .junk, .junk, .junk, .junk, .junk, .junk, .junk, .junk, .junk, .junk, .junk, .junk, .junk, .junk, .junk, .junk, .junk, .junk, .junk, .junk, .junk, .junk, .junk, .junk, .junk, .junk, .junk, .junk, .junk, .junk, .junk, .junk, .junk, .junk, .junk, .junk, .junk, .junk, .junk, .junk, .junk, .junk, .junk, .junk, .junk, .junk, .junk, .junk, .junk, .junk], [⟨true, .sl false 1 ((mkBids by').map row)⟩, ⟨true, .sl false 1 (A.map int)⟩, ⟨true, .sl false 1 (P.map int)⟩, ⟨true, .sl false 1 ((othT by' k).map int)⟩]⟩) ?_ (by simp [sub, slotsLe, clean, keep, refsL, refs, once, place, renL, ren, List.replicate, int, bool, hz, hg0, byts, ints]) ?_ ?_ ?_
    · omega
    · trivial
    · intro k hk _ hwk
      have n1 : mMkNum [.sl nl 1 (by'.map bAV), .v (.int .i64 (62 + 2 * (k : Int)))] = some (.v (.int .i64 (mkNum by' (62 + 2 * k)))) := by
        have := mMkNum_at nl by' (62 + 2 * k) ⟨hlen, by omega⟩
        simpa using this
      have n2 : IntKind.i64.wrap (2 * (k : Int)) = 2 * (k : Int) := wrapI (by omega) (by omega)
      have n3 : IntKind.i64.wrap (62 + 2 * (k : Int)) = 62 + 2 * (k : Int) := wrapI (by omega) (by omega)
      have hb := mkNum_bd (by' := by') (n := 62 + 2 * k)
      have n4 : IntKind.i64.wrap ((mkNum by' (62 + 2 * k)).tmod 16) = (mkNum by' (62 + 2 * k)).tmod 16 := by
        rw [Int.tmod_eq_emod_of_nonneg hb.1]; exact wrapI (by omega) (by omega)
      have n5 : othT by' (k + 1) = othT by' k ++ [(mkNum by' (62 + 2 * k)).tmod 16] := by simp [othT, List.range_succ]
      have n6 := oth_len (by' := by') (k := k)
      have b1 : k ≤ 4611686018427387903 := by omega
      have b2 : (k + 1) * 8 ≤ 140737488355328 := by omega
      simp [List.range, List.range.loop, ints, intss, int, bool, row, frac, fracs, ← List.map_take, ← List.map_drop, byts, hk, hwk, b1, b2, n1, n2, n3, n4, n5, n6]
    · intro _
      obtain ⟨g, g', u, q1, q2, q3, q4, q5, q6, q7, q8, q9⟩ := auc_gain by' (i := ii) (by omega)
      have hiv : ii < (mkBids by').length := by omega
      have hgd : (mkBids by').getD ii (true, []) = (mkBids by')[ii] := by rw [List.getD_eq_getElem?_getD, List.getElem?_eq_getElem hiv]; rfl
      rw [hgd] at q1
      rw [← hwv] at q2
      have hpn : (mkBids by')[ii].1 = false := mkBids_plain by' _ (List.getElem_mem hiv)
      have hwu : IntKind.i64.wrap (W - u) = g := by rw [hW0, ← q6]; exact wrapI (by omega) (by omega)
      have e1 : ¬ g < 0 := by omega
      have e2 : ¬ g < g' := by omega
      have e3 := oth_len (by' := by') (k := v0.2.length)
      have htO : (othT by' v0.2.length).take v0.2.length = othT by' v0.2.length := List.take_of_length_le (by omega)
      simp (config := {maxSteps := 1000000}) [List.range, List.range.loop, ints, intss, int, bool, row, frac, fracs, ← List.map_take, ← List.map_drop, byts, row, hil, htO, hVl, htV, htV2, htP, hpn, q1, q2, q3, hwu, e1, e2, e3]
      refine awp_range (live := [true, false, true, true, true, true, true, true, true, true, true, true, true, true, true, true, true, true, true, true, true, true, false, false, true, false, false, false, false, false, false, false, false, false, false, false, false, false, false, false, false, false, false, false, false, false, false, false, false, false, false, false, false, false, false, false, false, false, false, false, false, false, false, false, false, false, false, false, false, false, false, false, true, false, false, false, false, false, false, false, false, true, true, true, false, false, false, false, false, false, false, false, false, false, false, false, false, false, false, false, false, false, false, false, false, false, false, false, false, false, false, false, false, false, false, false, false, false, false, false, false, false, false, false, false, false, false, false, false, false, false, false, false, false, false, true, true, true, true, true, false, false, false, false, false, false, false, false, false, false, false, false, false, false, false, false, false, false, false, false, false, false, false, false, false, false, false, false, false, false, false, false, false, false, false, false, true, false, false, false, false, false, false, false, false, false, false, false, false, false, true, true, true, true, true, false, false, false, false, false, false, false, false, false, false, false, false, false, false, false, false, false, false, false, false, false, false, false, false, false, false, false, false, false, false, false, true]) (ctx_ok eqOk hG) mixed [false, false, false, true, false, false, true, false, false, false, true, false, false, false, false, false, false, false, false, false, false, false, false, false, false, false, false, false, false, false, false, false, false, false, false, false, false, false, false, false, false, false, false, false, false, false, false, false, false, false, false, false, false, false, false, false, false, false, false, false, false, false, false, false, false, false, false, false, false, false, false, false, false, false, false, false, false, false, false, false, false, false, false, false, false, false, false, false, false, false, false, false, false, false, false, false, false, false, false, false, false, false, false, false, false, false, false, false, false, false, false, false, false, false, false, false, false, false, false, false, false, false, false, false, false, false, false, false, false, false, false, false, false, false, false, false, true, true, true] (A.length) (fun k => True) (fun k => ⟨[.junk, .junk, .junk, .ref 0 [] 0 A.length, .junk, .junk, .ref 1 [] 0 A.length, .junk, .junk, .junk, .ref 2 [] 0 v0.2.length, .junk, .junk, .junk, .junk, .junk, .junk, .junk, .junk, .junk, .junk, .junk, .junk, .junk, .junk, .junk, .junk, .junk, .junk, .junk, .junk, .junk, .junk, .junk, .junk, .junk, .junk, .junk, .junk, .junk, .junk, .junk, .junk, .junk, .junk, .junk, .junk, .junk, .junk, .junk, .junk, .junk, .junk, .junk, .junk, .junk, .junk, .junk, .junk, .junk, .junk, .junk, .junk, .junk, .junk, .junk, .junk, .junk, .junk, .junk, .junk, .junk, .junk, .junk, .junk, .junk, .junk, .junk, .junk, .junk, .junk, .junk, .junk, .junk, .junk, .junk, .junk, .junk, .junk, .junk, .junk, .junk, .junk, .junk, .junk, .junk, .junk, .junk, .junk, .junk, .junk, .junk, .junk, .junk, .junk, .junk, .junk, .junk, .junk, .junk, .junk, .junk, .junk, .junk, .junk, .junk, .junk, .junk, .junk, .junk, .junk, .junk, .junk, .junk, .junk, .junk, .junk, .junk, .junk, .junk, .junk, .junk, .junk, .junk, .junk, .junk, .ref 3 [] 0 A.length, int A.length, int k, .junk, .junk, .junk, .junk, .junk, .junk, .junk, .junk, .junk, .junk, .junk, .junk, .junk, .junk, .junk, .junk, .junk, .junk, .junk, .junk, .junk, .junk, .junk, .junk, .junk, .junk, .junk, .junk, .junk, .junk, .junk, .junk, .junk, .junk, .junk, .junk, .junk, .junk, .junk, .junk, .junk, .junk, .junk, .junk, .junk, .junk, .junk, .junk, .junk, .junk, .junk, .junk, .junk, .junk, .junk, .junk, .junk, .junk, .junk, .junk, .junk, .junk, .junk, .junk, .junk, .junk, .junk, .junk, .junk, .junk, .junk, .junk, .junk, .junk, .junk, .junk, .junk, .junk, .junk, .junk, .junk, .junk, .junk, .junk, .junk, .junk, .junk, .junk, .junk, .junk, .junk, .junk, .junk, .junk, .junk, .junk, .junk, .junk, .junk], [⟨true, .sl false 1 ((mkBids by').map row)⟩, ⟨true, .sl false 1 (P.map int)⟩, ⟨true, .sl false 1 ((othT by' v0.2.length).map int)⟩, ⟨true, .sl false 1 (A.map int)⟩]⟩) ?_ (by simp [sub, slotsLe, clean, keep, refsL, refs, once, place, renL, ren, List.replicate, int, bool, row, ints, hVl, hPl, htO]) ?_ ?_ ?_
      · have := (mkBids_rect by').2.1; omega
      · trivial
      · intro k hk _ hwk
        obtain ⟨p1, p2, p3, p4, p5⟩ := hP k hk
        rw [getD_at hk] at p1 p2 p4 p5
        rw [getD_at (show k < P.length by omega)] at p3 p4 p5
        have hkP : k < P.length := by omega
        have hkV : k < (mkBids by').length := by omega
        have f1 : ¬ P[k] < 0 := by omega
        by_cases ha : A[k] < 0
        · have ha0 : ¬ 0 ≤ A[k] := by omega
          simp (config := {maxSteps := 1000000}) [List.range, List.range.loop, ints, intss, int, bool, row, frac, fracs, ← List.map_take, ← List.map_drop, row, hk, hkP, hkV, hwk, hPl, hVl, f1, ha, ha0, p4 ha]
        · have ha0 : 0 ≤ A[k] := by omega
          have hrow := (rect_row (mkBids_rect by').1 hkV).1
          have hen := ent_get hkV (k := A[k]) (by omega)
          have f2 : ¬ ent (mkBids by') k A[k] < P[k] := by have := p5 ha0; omega
          have f3 : A[k].toNat < (mkBids by')[k].2.length := by omega
          simp (config := {maxSteps := 1000000}) [List.range, List.range.loop, ints, intss, int, bool, row, frac, fracs, ← List.map_take, ← List.map_drop, row, hk, hkP, hkV, hwk, hPl, hVl, f1, ha, ha0, hen, f2, f3]
          rw [(List.getElem?_eq_some_iff.1 hen).2]; exact p5 ha0
      · intro _
        have hO0 : 0 < (othT by' v0.2.length).length := by have := rect_len (mkBids_rect by').1; omega
        have hO8 : (othT by' v0.2.length).length ≤ 8 := by omega
        have hob := oth_bd (by' := by') (k := v0.2.length)
        obtain ⟨p, s1, s2, s3, s4, s5, s6, s7⟩ := sp_facts hO0 (fun x hx => (hob x hx).1)
        have hsec := mSecond_at false (othT by' v0.2.length) (by omega)
        rw [priceOf_ok (by omega) hO8 (fun x hx => by have := hob x hx; omega), s1] at hsec
        generalize spQ (othT by' v0.2.length) = q at *
        generalize othT by' v0.2.length = O at *
        have d1 : p < v0.2.length := by omega
        have d2 : ¬ v0.2.length ≤ p := by omega
        have d3 : (p : Int) < v0.2.length := by omega
        have d4 : ¬ (v0.2.length : Int) ≤ p := by omega
        simp (config := {maxSteps := 1000000}) [List.range, List.range.loop, ints, intss, int, bool, row, frac, fracs, ← List.map_take, ← List.map_drop, htO, hsec, e3, d1, d2, d3, d4]
        refine awp_range (live := [true, false, true, true, true, true, true, true, true, true, true, true, true, true, true, true, true, true, true, true, true, true, false, false, true, false, false, false, false, false, false, false, false, false, false, false, false, false, false, false, false, false, false, false, false, false, false, false, false, false, false, false, false, false, false, false, false, false, false, false, false, false, false, false, false, false, false, false, false, false, false, false, true, false, false, false, false, false, false, false, false, true, true, true, false, false, false, false, false, false, false, false, false, false, false, false, false, false, false, false, false, false, false, false, false, false, false, false, false, false, false, false, false, false, false, false, false, false, false, false, false, false, false, false, false, false, false, false, false, false, false, false, false, false, false, true, true, true, true, true, false, false, false, false, false, false, false, false, false, false, false, false, false, false, false, false, false, false, false, false, false, false, false, false, false, false, false, false, false, false, false, false, false, false, false, false, true, false, false, false, false, false, false, false, false, false, false, false, false, false, true, true, true, true, true, false, false, false, false, false, false, false, false, false, false, false, false, false, false, false, false, false, false, false, false, false, false, false, false, false, false, false, false, false, false, false, true]) (ctx_ok eqOk hG) mixed [false, false, false, false, false, false, false, false, false, false, true, false, false, false, false, false, false, false, true, true, false, false, false, false, false, false, false, false, false, false, false, false, false, false, false, false, false, false, false, false, false, false, false, false, false, false, false, false, false, false, false, false, false, false, false, false, false, false, false, false, false, false, false, false, false, false, false, false, false, false, false, false, false, false, false, false, false, false, false, false, false, false, false, false, false, false, false, false, false, false, false, false, false, false, false, false, false, false, false, false, false, false, false, false, false, false, false, false, false, false, false, false, false, false, false, false, false, false, false, false, false, false, false, false, false, false, false, false, false, false, false, false, false, false, false, false, false, false, false, false, false, false, false, false, false, false, false, false, false, false, false, false, false, false, false, false, false, false, false, false, false, false, false, false, false, false, false, false, false, false, false, false, false, false, false, false, false, false, false, false, false, false, false, false, false, false, false, false, false, false, false, true, true, true] (v0.2.length) (fun k => True) (fun k => ⟨[.junk, .junk, .junk, .junk, .junk, .junk, .junk, .junk, .junk, .junk, .ref 0 [] 0 v0.2.length, .junk, .junk, .junk, .junk, .junk, .junk, .junk, int p, int q, .junk, .junk, .junk, .junk, .junk, .junk, .junk, .junk, .junk, .junk, .junk, .junk, .junk, .junk, .junk, .junk, .junk, .junk, .junk, .junk, .junk, .junk, .junk, .junk, .junk, .junk, .junk, .junk, .junk, .junk, .junk, .junk, .junk, .junk, .junk, .junk, .junk, .junk, .junk, .junk, .junk, .junk, .junk, .junk, .junk, .junk, .junk, .junk, .junk, .junk, .junk, .junk, .junk, .junk, .junk, .junk, .junk, .junk, .junk, .junk, .junk, .junk, .junk, .junk, .junk, .junk, .junk, .junk, .junk, .junk, .junk, .junk, .junk, .junk, .junk, .junk, .junk, .junk, .junk, .junk, .junk, .junk, .junk, .junk, .junk, .junk, .junk, .junk, .junk, .junk, .junk, .junk, .junk, .junk, .junk, .junk, .junk, .junk, .junk, .junk, .junk, .junk, .junk, .junk, .junk, .junk, .junk, .junk, .junk, .junk, .junk, .junk, .junk, .junk, .junk, .junk, .junk, .junk, .junk, .junk, .junk, .junk, .junk, .junk, .junk, .junk, .junk, .junk, .junk, .junk, .junk, .junk, .junk, .junk, .junk, .junk, .junk, .junk, .junk, .junk, .junk, .junk, .junk, .junk, .junk, .junk, .junk, .junk, .junk, .junk, .junk, .junk, .junk, .junk, .junk, .junk, .junk, .junk, .junk, .junk, .junk, .junk, .junk, .junk, .junk, .junk, .junk, .junk, .junk, .junk, .junk, .ref 0 [] 0 v0.2.length, int v0.2.length, int k, .junk, .junk, .junk, .junk, .junk, .junk, .junk, .junk, .junk, .junk, .junk, .junk, .junk, .junk, .junk, .junk, .junk, .junk, .junk, .junk, .junk, .junk, .junk, .junk, .junk, .junk, .junk, .junk, .junk, .junk, .junk, .junk, .junk, .junk, .junk, .junk, .junk, .junk, .junk, .junk, .junk, .junk, .junk, .junk], [⟨true, .sl false 1 (O.map int)⟩]⟩) ?_ (by simp [sub, slotsLe, clean, keep, refsL, refs, once, place, renL, ren, List.replicate, int, bool, htO, e3]) ?_ ?_ ?_
        · omega
        · trivial
        · intro k hk _ hwk
          have hkO : k < O.length := by omega
          have t1 := s3 k hkO
          have t2 := s4 k hkO
          have t3 := s5 k hkO
          have t4 : ¬ O[p] < O[k] := by omega
          have hpO : O[p]? = some O[p] := List.getElem?_eq_getElem s2
          have hkO' : O[k]? = some O[k] := List.getElem?_eq_getElem hkO
          rcases Nat.lt_trichotomy k p with hkp | hkp | hkp
          · have u1 : ((k : Int) != (p : Int)) = true := by simp; omega
            have u2 : (k : Int) < p := by omega
            have u3 : ¬ q < O[k] := by have := t3 (by omega); omega
            have u4 : ¬ O[k] = O[p] := by have := t2 hkp; omega
            have u5 : ¬ k = p := by omega
            simp (config := {maxSteps := 1000000}) [List.range, List.range.loop, ints, intss, int, bool, row, frac, fracs, ← List.map_take, ← List.map_drop, hk, hkO, hwk, e3, d1, s2, t4, u1, u2, u3, u4, u5, hkp, hpO, hkO']
          · subst hkp
            simp (config := {maxSteps := 1000000}) [List.range, List.range.loop, ints, intss, int, bool, row, frac, fracs, ← List.map_take, ← List.map_drop, hk, hkO, hwk, e3, d1, s2, t4]
          · have u1 : ((k : Int) != (p : Int)) = true := by simp; omega
            have u2 : ¬ (k : Int) < p := by omega
            have u3 : ¬ q < O[k] := by have := t3 (by omega); omega
            have u5 : ¬ k = p := by omega
            have u6 : ¬ k < p := by omega
            simp (config := {maxSteps := 1000000}) [List.range, List.range.loop, ints, intss, int, bool, row, frac, fracs, ← List.map_take, ← List.map_drop, hk, hkO, hwk, e3, d1, s2, t4, u1, u2, u3, u5, u6, hpO, hkO']
        · intro _
          have hpO : O[p]? = some O[p] := List.getElem?_eq_getElem s2
          have v1 : q ≤ O[p] := s7
          simp (config := {maxSteps := 1000000}) [List.range, List.range.loop, ints, intss, int, bool, row, frac, fracs, ← List.map_take, ← List.map_drop, e3, d1, s2, hpO, v1, s6]
  · have c1 : (1048576 : Int) < by'.length := by omega
    have c2 : 1048576 < by'.length := by omega
    simp [Try.f3, List.range, List.range.loop, ints, intss, int, bool, row, frac, fracs, ← List.map_take, ← List.map_drop, byts, c1, c2]

end Go.Proofs.Ytakladjlnkojjaa.Ax
