/-
  Contracts: AdjustedShares (both programs). No condition.
-/
import Derived.Test.YtakladjlnkojjaaCG5
import Derived.Test.YtakladjlnkojjaaCG8
import Derived.Test.YtakladjlnkojjaaCG6
import Derived.Test.YtakladjlnkojjaaCG4
namespace Go.Proofs.Ytakladjlnkojjaa.Ax
open Go Go.RowKit
set_option linter.unusedSimpArgs false

noncomputable def mAdj : List AV → Option AV := mk (fun _ => True) (fun (p : (Bool) × (List (Bool × List Int))) => [intss p.1 p.2]) (fun p => .sl (!pointsB p.2) 2 ((adjL p.2).map frac))
theorem mAdj_at (nl : Bool) (xss : List (Bool × List Int)) : mAdj [.sl nl 1 (xss.map row)] = some (.sl (!pointsB xss) 2 ((adjL xss).map frac)) :=
  mk_eq (enc := fun (p : (Bool) × (List (Bool × List Int))) => [intss p.1 p.2]) (x := (nl, xss)) (by rintro ⟨a0, a1⟩ ⟨b0, b1⟩ h; simp [ints, intss, int, bool, row, frac, fracs, map_int_inj, map_row_inj, frac_inj, map_frac_inj] at h; simp [h]) trivial
noncomputable def mSwap : List AV → Option AV := mk (fun _ => True) (fun (p : (Int) × (Int)) => [int p.1, int p.2]) (fun p => .tup [.v (.int .i64 p.2), .v (.int .i64 p.1)])
theorem mSwap_at (a : Int) (b : Int) : mSwap [.v (.int .i64 a), .v (.int .i64 b)] = some (.tup [.v (.int .i64 b), .v (.int .i64 a)]) :=
  mk_eq (enc := fun (p : (Int) × (Int)) => [int p.1, int p.2]) (x := (a, b)) (by rintro ⟨a0, a1⟩ ⟨b0, b1⟩ h; simp [ints, intss, int, bool, row, frac, fracs, map_int_inj, map_row_inj, frac_inj, map_frac_inj] at h; simp [h]) trivial
theorem adjPoints {r0 r1 : Bool × List Int} (h1 : pointsB [r0, r1] = true) : r1.2.length = r0.2.length ∧ 1 ≤ r0.2.length ∧ r0.2.length ≤ 6 ∧ (∀ z ∈ r0.2, 0 ≤ z ∧ z ≤ 100) ∧ (∀ z ∈ r1.2, 0 ≤ z ∧ z ≤ 100) := by
  obtain ⟨h2, hr⟩ := points_facts h1
  have hl := rect_len hr
  have hr1 := rect_row hr (i := 1) (by simp)
  have hr0 := rect_row hr (i := 0) (by simp)
  simp only [wid, List.headD_cons] at hl hr1 hr0
  simp only [List.getElem_cons_succ, List.getElem_cons_zero] at hr1 hr0
  exact ⟨by omega, by omega, by omega, hr0.2, hr1.2⟩

def arr0 (s : DSt) : AV := .agg [int s.1,int s.2.1]
set_option maxRecDepth 16000 in
set_option maxHeartbeats 4000000 in
theorem adjI_0 (nl : Bool) (r0 r1 : Bool × List Int) (h1 : pointsB [r0, r1] = true) (hg : giveR (cntS r0.2 r1.2 r0.2.length) = 0) :
    CallOk Try.prog 20 [intss nl [r0, r1]] (.sl false 2 ((dealL r0.2 r1.2 0 (tOrd [r0, r1] 0) ((cntS r0.2 r1.2 r0.2.length).1, (cntS r0.2 r1.2 r0.2.length).2, fsA r0.2 r1.2 r0.2.length)).map frac)) := by
  obtain ⟨hl1, hn1, hn6, hb0, hb1⟩ := adjPoints h1
  have hO : OrdOk r0.2 r1.2 0 r0.2.length (tOrd [r0, r1] 0) (fsA r0.2 r1.2 r0.2.length) := ordOk h1 (by simp)
  have hP := mPoints_at nl [r0, r1]
  have hF := mFirst_at nl [r0, r1]
  have hfl : firstL [r0, r1] = fsA r0.2 r1.2 r0.2.length := by simp [firstL, h1]
  rw [h1] at hP hF
  rw [hfl] at hF
  simp only [List.map_cons, List.map_nil, row] at hP hF
  have hT := mTOi_at nl [r0, r1] 0
  simp only [List.map_cons, List.map_nil, row] at hT
  have hcb := fun k => cntS_bd (k := k) hb0 hb1
  have hfn := fsA_len (r0 := r0.2) (r1 := r1.2) (k := r0.2.length)
  have hord : (tOrd [r0, r1] 0).length ≤ 1000 := by
    have e := (isort_perm (c := ratC r0.2 r1.2) (selTo (selB r0.2 r1.2 0) r0.2.length)).length_eq
    have e2 := (isort_perm (c := ratC r1.2 r0.2) (selTo (selB r0.2 r1.2 0) r0.2.length)).length_eq
    have e3 := selTo_len (p := selB r0.2 r1.2 0) (k := r0.2.length)
    simp [tOrd, h1]; omega
  have hz0 : (cntS r0.2 r1.2 0).1 = 0 ∧ (cntS r0.2 r1.2 0).2 = 0 := ⟨rfl, rfl⟩
  have ww1 : IntKind.i64.wrap 1 = 1 := by decide
  have ww0 : IntKind.i64.wrap 0 = 0 := by decide
  have hG : FnsOk Try.prog [(23, mPoints), (22, mFirst), (56, mBoolInt), (28, mTOi), (57, mWhole), (58, mRed), (59, mMinus)] := (.cons implPointsOk_ok (.cons implFirst_ok (.cons boolInt_ok (.cons implTransfer_ok (.cons whole_ok (.cons reduced_ok (.cons minus_ok .nil)))))))
  refine callOk_awp (ctx_ok eqOk hG) mixed (live := [true, false, true, true, true, true, true, true, false, true, true, true, true, false, false, false, true, false, false, true, true, true, true, false, false, false, false, false, false, false, false, false, false, false, false, false, false, false, false, false, false, false, false, false, false, false, false, false, false, false, false, true, true, true, true, false, false, false, false, false, false, false, false, false, false, false, false, false, false, false, false, false, false, false, false, false, false, false, false, false, false, false, false, true, false, false, false, false, false, false, false, false, false, false, false, false, false, false, false, false, false, false, false, false, false, false, false, false, false, false, false, false, false, false, false, false, false, false, true]) (dt := [(8, ⟨[], [], []⟩), (14, ⟨[], [], []⟩), (15, ⟨[], [], []⟩), (19, ⟨[(14, 16)], [0, 0, 0, 0, 0, 0, 0, 0, 0, 0, 0, 0, 0, 0, 0, 1], []⟩), (21, ⟨[(5, 6)], [], []⟩)]) Try.func20 rfl (by kernel_rfl) (by kernel_rfl) fun w0 hlens => ?_
  clear hlens
  simp (config := {contextual := true}) [Try.f20, List.range, List.range.loop, ints, intss, int, bool, row, frac, fracs, ← List.map_take, ← List.map_drop, hP, hF, hfn]
  refine awp_range (live := [true, false, true, true, true, true, true, true, false, true, true, true, true, false, false, false, true, false, false, true, true, true, true, false, false, false, false, false, false, false, false, false, false, false, false, false, false, false, false, false, false, false, false, false, false, false, false, false, false, false, false, true, true, true, true, false, false, false, false, false, false, false, false, false, false, false, false, false, false, false, false, false, false, false, false, false, false, false, false, false, false, false, false, true, false, false, false, false, false, false, false, false, false, false, false, false, false, false, false, false, false, false, false, false, false, false, false, false, false, false, false, false, false, false, false, false, false, false, true]) (ctx_ok eqOk hG) mixed [true, false, false, true, true, false, false, false, false, false, false, false, false, false, false, false, false, false, false, true, true, true] (r0.2.length) (fun k => True) (fun k => ⟨[intss nl [r0, r1], .junk, .junk, .ref 0 [] 0 r0.2.length, .ptr 1 [] 0 0, .junk, .junk, .junk, .junk, .junk, .junk, .junk, .junk, .junk, .junk, .junk, .junk, .junk, .junk, .ref 0 [] 0 r0.2.length, int r0.2.length, int k, .junk, .junk, .junk, .junk, .junk, .junk, .junk, .junk, .junk, .junk, .junk, .junk, .junk, .junk, .junk, .junk, .junk, .junk, .junk, .junk, .junk, .junk, .junk, .junk, .junk, .junk, .junk, .junk, .junk, .junk, .junk, .junk, .junk, .junk, .junk, .junk, .junk, .junk, .junk, .junk, .junk, .junk, .junk, .junk, .junk, .junk, .junk, .junk, .junk, .junk, .junk, .junk, .junk, .junk, .junk, .junk, .junk, .junk, .junk, .junk, .junk, .junk, .junk, .junk, .junk, .junk, .junk, .junk, .junk, .junk, .junk, .junk, .junk, .junk, .junk, .junk, .junk, .junk, .junk, .junk, .junk, .junk, .junk, .junk, .junk, .junk, .junk, .junk, .junk, .junk, .junk, .junk, .junk, .junk, .junk, .junk, .junk, .junk, .junk, .junk, .junk, .junk, .junk, .junk, .junk, .junk, .junk, .junk, .junk], [⟨true, .sl false 2 ((fsA r0.2 r1.2 r0.2.length).map frac)⟩, ⟨true, .sl false 2 [.agg [int (cntS r0.2 r1.2 k).1, int (cntS r0.2 r1.2 k).2]]⟩]⟩) ?_ (by simp [sub, slotsLe, clean, keep, refsL, refs, once, place, renL, ren, List.replicate, int, bool, intss, row, hz0, hfn]) ?_ ?_ ?_
  · omega
  · trivial
  · intro k hk _ hwk
    have hc := hcb k (by omega) (by omega)
    have hc1 := hcb (k + 1) (by omega) (by omega)
    have e0 : r0.2[k] = at0 r0.2 k := (at0_eq hk).symm
    have e1 : r1.2[k] = at0 r1.2 k := (at0_eq (by omega)).symm
    have hk1 : k < r1.2.length := by omega
    have hfa : (fsA r0.2 r1.2 r0.2.length)[k]'(by omega) = fshare r0.2 r1.2 k := by simp [fsA]
    have hcs : cntS r0.2 r1.2 (k + 1) = if at0 r1.2 k ≤ at0 r0.2 k then ((cntS r0.2 r1.2 k).1 + at0 r0.2 k, (cntS r0.2 r1.2 k).2) else ((cntS r0.2 r1.2 k).1, (cntS r0.2 r1.2 k).2 + at0 r1.2 k) := rfl
    by_cases hb : at0 r1.2 k ≤ at0 r0.2 k
    · rw [if_pos hb] at hcs
      rw [hcs] at hc1 ⊢
      simp only at hc1
      have hw : IntKind.i64.wrap ((cntS r0.2 r1.2 k).1 + at0 r0.2 k) = (cntS r0.2 r1.2 k).1 + at0 r0.2 k := wrapI (by omega) (by omega)
      simp (config := {contextual := true}) [List.range, List.range.loop, ints, intss, int, bool, row, frac, fracs, ← List.map_take, ← List.map_drop, intss, row, hk, hk1, hwk, hfn, hfa, fshare, frac, hb, e0, e1, ww0, ww1, hw]
      done
    · rw [if_neg hb] at hcs
      rw [hcs] at hc1 ⊢
      simp only at hc1
      have hw : IntKind.i64.wrap ((cntS r0.2 r1.2 k).2 + at0 r1.2 k) = (cntS r0.2 r1.2 k).2 + at0 r1.2 k := wrapI (by omega) (by omega)
      simp (config := {contextual := true}) [List.range, List.range.loop, ints, intss, int, bool, row, frac, fracs, ← List.map_take, ← List.map_drop, intss, row, hk, hk1, hwk, hfn, hfa, fshare, frac, hb, e0, e1, ww0, ww1, hw]
      done
  · intro _
    have hc := hcb r0.2.length (by omega) (by omega)
    have hge : (cntS r0.2 r1.2 r0.2.length).2 ≤ (cntS r0.2 r1.2 r0.2.length).1 := by unfold giveR at hg; split at hg <;> omega
    have hdz := deal_zero hO (x := (cntS r0.2 r1.2 r0.2.length).1) (y := (cntS r0.2 r1.2 r0.2.length).2) hfn hge (by omega) (by omega)
    have hgive : (decide ((cntS r0.2 r1.2 r0.2.length).1 < (cntS r0.2 r1.2 r0.2.length).2)) = decide ((0 : Int) = 1) := by
      unfold giveR at hg; split at hg <;> simp [*] at *
    generalize hR : dealL r0.2 r1.2 0 (tOrd [r0, r1] 0) ((cntS r0.2 r1.2 r0.2.length).1, (cntS r0.2 r1.2 r0.2.length).2, fsA r0.2 r1.2 r0.2.length) = R at *
    generalize hs0 : (((cntS r0.2 r1.2 r0.2.length).1, (cntS r0.2 r1.2 r0.2.length).2, fsA r0.2 r1.2 r0.2.length) : DSt) = s0 at *
    have hs1 : (cntS r0.2 r1.2 r0.2.length).1 = s0.1 := by rw [← hs0]
    have hs2 : (cntS r0.2 r1.2 r0.2.length).2 = s0.2.1 := by rw [← hs0]
    have hs3 : fsA r0.2 r1.2 r0.2.length = s0.2.2 := by rw [← hs0]
    generalize (tOrd [r0, r1] 0).isEmpty = oe at *
    generalize hord' : tOrd [r0, r1] 0 = ord at *
    have hst0 : dealT r0.2 r1.2 0 ord s0 0 = s0 := rfl
    simp (config := {contextual := true}) [List.range, List.range.loop, ints, intss, int, bool, row, frac, fracs, ← List.map_take, ← List.map_drop, intss, row, hgive, mBoolInt_at, hT, ww0, ww1]
    refine awp_range (live := [true, false, true, true, true, true, true, true, false, true, true, true, true, false, false, false, true, false, false, true, true, true, true, false, false, false, false, false, false, false, false, false, false, false, false, false, false, false, false, false, false, false, false, false, false, false, false, false, false, false, false, true, true, true, true, false, false, false, false, false, false, false, false, false, false, false, false, false, false, false, false, false, false, false, false, false, false, false, false, false, false, false, false, true, false, false, false, false, false, false, false, false, false, false, false, false, false, false, false, false, false, false, false, false, false, false, false, false, false, false, false, false, false, false, false, false, false, false, true]) (ctx_ok eqOk hG) mixed [true, false, false, true, true, false, false, true, false, false, false, false, false, false, false, false, false, false, false, false, false, false, false, false, false, false, false, false, false, false, false, false, false, false, false, false, false, false, false, false, false, false, false, false, false, false, false, false, false, false, false, true, true, true] (ord.length) (fun k => DealP r0.2 r1.2 0 r0.2.length ord R k (dealT r0.2 r1.2 0 ord s0 k)) (fun k => ⟨[intss nl [r0, r1], .junk, .junk, .ref 0 [] 0 r0.2.length, .ptr 1 [] 0 0, .junk, .junk, int 0, .junk, .junk, .junk, .junk, .junk, .junk, .junk, .junk, .junk, .junk, .junk, .junk, .junk, .junk, .junk, .junk, .junk, .junk, .junk, .junk, .junk, .junk, .junk, .junk, .junk, .junk, .junk, .junk, .junk, .junk, .junk, .junk, .junk, .junk, .junk, .junk, .junk, .junk, .junk, .junk, .junk, .junk, .junk, .ref 2 [] 0 ord.length, int ord.length, int k, .junk, .junk, .junk, .junk, .junk, .junk, .junk, .junk, .junk, .junk, .junk, .junk, .junk, .junk, .junk, .junk, .junk, .junk, .junk, .junk, .junk, .junk, .junk, .junk, .junk, .junk, .junk, .junk, .junk, .junk, .junk, .junk, .junk, .junk, .junk, .junk, .junk, .junk, .junk, .junk, .junk, .junk, .junk, .junk, .junk, .junk, .junk, .junk, .junk, .junk, .junk, .junk, .junk, .junk, .junk, .junk, .junk, .junk, .junk, .junk, .junk, .junk, .junk, .junk, .junk, .junk, .junk, .junk, .junk, .junk, .junk, .junk, .junk, .junk, .junk, .junk, .junk], [⟨true, .sl false 2 ((dealT r0.2 r1.2 0 ord s0 k).2.2.map frac)⟩, ⟨true, .sl false 2 [arr0 (dealT r0.2 r1.2 0 ord s0 k)]⟩, ⟨true, .sl oe 1 (ord.map int)⟩]⟩) ?_ (by simp [sub, slotsLe, clean, keep, refsL, refs, once, place, renL, ren, List.replicate, int, bool, intss, row, hst0, arr0, hs1, hs2, hs3]) ?_ ?_ ?_
    · omega
    · exact hdz
    · intro k hk hp hwk
      obtain ⟨i, hi, hin, hpos, hau, hav⟩ := ord_at hO hk
      have hnext : dealT r0.2 r1.2 0 ord s0 (k + 1) = ((dealT r0.2 r1.2 0 ord s0 k).1 - at0 r0.2 i, (dealT r0.2 r1.2 0 ord s0 k).2.1 + at0 r1.2 i, (dealT r0.2 r1.2 0 ord s0 k).2.2.set i (0, 1)) := by
        rw [dealT, show ord.getD k 0 = (i : Int) by simp [List.getD_eq_getElem?_getD, hk, hi]]
        simp [dealS]
      rw [hnext]
      clear hnext
      generalize dealT r0.2 r1.2 0 ord s0 k = s at *
      have hln := hp.ln
      have hge := hp.ge
      have hy0 := hp.y0
      have hx1 := hp.x1
      have hi0 : i < r0.2.length := hin
      have hi1 : i < r1.2.length := by omega
      have e0 : r0.2[i] = at0 r0.2 i := (at0_eq hi0).symm
      have e1 : r1.2[i] = at0 r1.2 i := (at0_eq hi1).symm
      have hw1 : IntKind.i64.wrap (s.1 - at0 r0.2 i) = s.1 - at0 r0.2 i := wrapI (by omega) (by omega)
      have hw2 : IntKind.i64.wrap (s.2.1 + at0 r1.2 i) = s.2.1 + at0 r1.2 i := wrapI (by omega) (by omega)
      have hw3 : IntKind.i64.wrap (s.1 - s.2.1) = s.1 - s.2.1 := wrapI (by omega) (by omega)
      have hw4 : IntKind.i64.wrap (at0 r0.2 i + at0 r1.2 i) = at0 r0.2 i + at0 r1.2 i := wrapI (by omega) (by omega)
      have hset0 : ∀ a b : Int, (s.2.2.map frac).set i (.agg [.v (.int .i64 a), .v (.int .i64 b)]) = (s.2.2.set i (a, b)).map frac := fun a b => by rw [List.map_set]; rfl
      have hset := hset0 0 1
      have hlsh : (s.2.2.set i (0, 1)).length = r0.2.length := by simp [hln]
      simp only
      by_cases hcond : s.2.1 + at0 r1.2 i ≤ s.1 - at0 r0.2 i
      · have hstep := deal_step hO hp hk hi hcond
        generalize s.2.2.set i (0, 1) = sh' at *
        simp (config := {maxSteps := 1000000}) [List.range, List.range.loop, ints, intss, int, bool, row, frac, fracs, ← List.map_take, ← List.map_drop, intss, row, arr0, hk, hwk, hi, hin, hi1, hln, e0, e1, ww0, ww1, hw1, hw2, hcond, mWhole_at, hset, hlsh, hstep]
        done
      · have hstop := deal_stop hO hp hk hi hcond
        obtain ⟨p, q, hpq, hpart⟩ := spl_part (d := s.1 - s.2.1) (w := at0 r0.2 i + at0 r1.2 i) (by omega) (by omega) (by omega)
        have hsub := mMinus_at 1 1 p q (part_facts hpart).1
        rw [(sub_part hpart).1] at hsub
        have hred := mRed_at (s.1 - s.2.1) (at0 r0.2 i + at0 r1.2 i) (by omega)
        rw [show redF (s.1 - s.2.1) (at0 r0.2 i + at0 r1.2 i) = mkF (s.1 - s.2.1) (at0 r0.2 i + at0 r1.2 i) by unfold redF; rw [if_neg (by omega)], hpq] at hred
        have hspl : splF 0 (s.1 - s.2.1) (at0 r0.2 i + at0 r1.2 i) = if (0 : Int) = 0 then (q - p, q) else (p, q) := by unfold splF; rw [hpq]
        rw [hspl] at hstop
        have hset2 := hset0 (if (0 : Int) = 0 then q - p else p) q
        rw [show (((if (0 : Int) = 0 then q - p else p), q) : Int × Int) = if (0 : Int) = 0 then (q - p, q) else (p, q) by split <;> rfl, ← hstop] at hset2
        have hlR : R.length = r0.2.length := by rw [hstop]; simp [hln]
        simp only [ite_true, ite_false, eq_self, show ((1 : Int) = 0) = False from by simp] at hset2
        clear hstop hset hlsh hset0
        simp (config := {maxSteps := 1000000}) [List.range, List.range.loop, ints, intss, int, bool, row, frac, fracs, ← List.map_take, ← List.map_drop, intss, row, arr0, hk, hwk, hi, hin, hi1, hln, e0, e1, ww0, ww1, hw1, hw2, hw3, hw4, hcond, mWhole_at, hset2, hlR, hred, hsub]
        done
    · intro hp
      have hend := deal_end hp rfl
      have hln := hp.ln
      subst hend
      simp (config := {contextual := true}) [List.range, List.range.loop, ints, intss, int, bool, row, frac, fracs, ← List.map_take, ← List.map_drop, hln]
      done

def arr1 (s : DSt) : AV := .agg [int s.2.1,int s.1]
set_option maxRecDepth 16000 in
set_option maxHeartbeats 4000000 in
theorem adjI_1 (nl : Bool) (r0 r1 : Bool × List Int) (h1 : pointsB [r0, r1] = true) (hg : giveR (cntS r0.2 r1.2 r0.2.length) = 1) :
    CallOk Try.prog 20 [intss nl [r0, r1]] (.sl false 2 ((dealL r1.2 r0.2 1 (tOrd [r0, r1] 1) ((cntS r0.2 r1.2 r0.2.length).2, (cntS r0.2 r1.2 r0.2.length).1, fsA r0.2 r1.2 r0.2.length)).map frac)) := by
  obtain ⟨hl1, hn1, hn6, hb0, hb1⟩ := adjPoints h1
  have hO : OrdOk r1.2 r0.2 1 r0.2.length (tOrd [r0, r1] 1) (fsA r0.2 r1.2 r0.2.length) := ordOk h1 (by simp)
  have hP := mPoints_at nl [r0, r1]
  have hF := mFirst_at nl [r0, r1]
  have hfl : firstL [r0, r1] = fsA r0.2 r1.2 r0.2.length := by simp [firstL, h1]
  rw [h1] at hP hF
  rw [hfl] at hF
  simp only [List.map_cons, List.map_nil, row] at hP hF
  have hT := mTOi_at nl [r0, r1] 1
  simp only [List.map_cons, List.map_nil, row] at hT
  have hcb := fun k => cntS_bd (k := k) hb0 hb1
  have hfn := fsA_len (r0 := r0.2) (r1 := r1.2) (k := r0.2.length)
  have hord : (tOrd [r0, r1] 1).length ≤ 1000 := by
    have e := (isort_perm (c := ratC r0.2 r1.2) (selTo (selB r0.2 r1.2 1) r0.2.length)).length_eq
    have e2 := (isort_perm (c := ratC r1.2 r0.2) (selTo (selB r0.2 r1.2 1) r0.2.length)).length_eq
    have e3 := selTo_len (p := selB r0.2 r1.2 1) (k := r0.2.length)
    simp [tOrd, h1]; omega
  have hz0 : (cntS r0.2 r1.2 0).1 = 0 ∧ (cntS r0.2 r1.2 0).2 = 0 := ⟨rfl, rfl⟩
  have ww1 : IntKind.i64.wrap 1 = 1 := by decide
  have ww0 : IntKind.i64.wrap 0 = 0 := by decide
  have hG : FnsOk Try.prog [(23, mPoints), (22, mFirst), (56, mBoolInt), (28, mTOi), (57, mWhole), (58, mRed), (59, mMinus)] := (.cons implPointsOk_ok (.cons implFirst_ok (.cons boolInt_ok (.cons implTransfer_ok (.cons whole_ok (.cons reduced_ok (.cons minus_ok .nil)))))))
  refine callOk_awp (ctx_ok eqOk hG) mixed (live := [true, false, true, true, true, true, true, true, false, true, true, true, true, false, false, false, true, false, false, true, true, true, true, false, false, false, false, false, false, false, false, false, false, false, false, false, false, false, false, false, false, false, false, false, false, false, false, false, false, false, false, true, true, true, true, false, false, false, false, false, false, false, false, false, false, false, false, false, false, false, false, false, false, false, false, false, false, false, false, false, false, false, false, true, false, false, false, false, false, false, false, false, false, false, false, false, false, false, false, false, false, false, false, false, false, false, false, false, false, false, false, false, false, false, false, false, false, false, true]) (dt := [(8, ⟨[], [], []⟩), (14, ⟨[], [], []⟩), (15, ⟨[], [], []⟩), (19, ⟨[(14, 16)], [0, 0, 0, 0, 0, 0, 0, 0, 0, 0, 0, 0, 0, 0, 0, 1], []⟩), (21, ⟨[(5, 6)], [], []⟩)]) Try.func20 rfl (by kernel_rfl) (by kernel_rfl) fun w0 hlens => ?_
  clear hlens
  simp (config := {contextual := true}) [Try.f20, List.range, List.range.loop, ints, intss, int, bool, row, frac, fracs, ← List.map_take, ← List.map_drop, hP, hF, hfn]
  refine awp_range (live := [true, false, true, true, true, true, true, true, false, true, true, true, true, false, false, false, true, false, false, true, true, true, true, false, false, false, false, false, false, false, false, false, false, false, false, false, false, false, false, false, false, false, false, false, false, false, false, false, false, false, false, true, true, true, true, false, false, false, false, false, false, false, false, false, false, false, false, false, false, false, false, false, false, false, false, false, false, false, false, false, false, false, false, true, false, false, false, false, false, false, false, false, false, false, false, false, false, false, false, false, false, false, false, false, false, false, false, false, false, false, false, false, false, false, false, false, false, false, true]) (ctx_ok eqOk hG) mixed [true, false, false, true, true, false, false, false, false, false, false, false, false, false, false, false, false, false, false, true, true, true] (r0.2.length) (fun k => True) (fun k => ⟨[intss nl [r0, r1], .junk, .junk, .ref 0 [] 0 r0.2.length, .ptr 1 [] 0 0, .junk, .junk, .junk, .junk, .junk, .junk, .junk, .junk, .junk, .junk, .junk, .junk, .junk, .junk, .ref 0 [] 0 r0.2.length, int r0.2.length, int k, .junk, .junk, .junk, .junk, .junk, .junk, .junk, .junk, .junk, .junk, .junk, .junk, .junk, .junk, .junk, .junk, .junk, .junk, .junk, .junk, .junk, .junk, .junk, .junk, .junk, .junk, .junk, .junk, .junk, .junk, .junk, .junk, .junk, .junk, .junk, .junk, .junk, .junk, .junk, .junk, .junk, .junk, .junk, .junk, .junk, .junk, .junk, .junk, .junk, .junk, .junk, .junk, .junk, .junk, .junk, .junk, .junk, .junk, .junk, .junk, .junk, .junk, .junk, .junk, .junk, .junk, .junk, .junk, .junk, .junk, .junk, .junk, .junk, .junk, .junk, .junk, .junk, .junk, .junk, .junk, .junk, .junk, .junk, .junk, .junk, .junk, .junk, .junk, .junk, .junk, .junk, .junk, .junk, .junk, .junk, .junk, .junk, .junk, .junk, .junk, .junk, .junk, .junk, .junk, .junk, .junk, .junk, .junk, .junk], [⟨true, .sl false 2 ((fsA r0.2 r1.2 r0.2.length).map frac)⟩, ⟨true, .sl false 2 [.agg [int (cntS r0.2 r1.2 k).1, int (cntS r0.2 r1.2 k).2]]⟩]⟩) ?_ (by simp [sub, slotsLe, clean, keep, refsL, refs, once, place, renL, ren, List.replicate, int, bool, intss, row, hz0, hfn]) ?_ ?_ ?_
  · omega
  · trivial
  · intro k hk _ hwk
    have hc := hcb k (by omega) (by omega)
    have hc1 := hcb (k + 1) (by omega) (by omega)
    have e0 : r0.2[k] = at0 r0.2 k := (at0_eq hk).symm
    have e1 : r1.2[k] = at0 r1.2 k := (at0_eq (by omega)).symm
    have hk1 : k < r1.2.length := by omega
    have hfa : (fsA r0.2 r1.2 r0.2.length)[k]'(by omega) = fshare r0.2 r1.2 k := by simp [fsA]
    have hcs : cntS r0.2 r1.2 (k + 1) = if at0 r1.2 k ≤ at0 r0.2 k then ((cntS r0.2 r1.2 k).1 + at0 r0.2 k, (cntS r0.2 r1.2 k).2) else ((cntS r0.2 r1.2 k).1, (cntS r0.2 r1.2 k).2 + at0 r1.2 k) := rfl
    by_cases hb : at0 r1.2 k ≤ at0 r0.2 k
    · rw [if_pos hb] at hcs
      rw [hcs] at hc1 ⊢
      simp only at hc1
      have hw : IntKind.i64.wrap ((cntS r0.2 r1.2 k).1 + at0 r0.2 k) = (cntS r0.2 r1.2 k).1 + at0 r0.2 k := wrapI (by omega) (by omega)
      simp (config := {contextual := true}) [List.range, List.range.loop, ints, intss, int, bool, row, frac, fracs, ← List.map_take, ← List.map_drop, intss, row, hk, hk1, hwk, hfn, hfa, fshare, frac, hb, e0, e1, ww0, ww1, hw]
      done
    · rw [if_neg hb] at hcs
      rw [hcs] at hc1 ⊢
      simp only at hc1
      have hw : IntKind.i64.wrap ((cntS r0.2 r1.2 k).2 + at0 r1.2 k) = (cntS r0.2 r1.2 k).2 + at0 r1.2 k := wrapI (by omega) (by omega)
      simp (config := {contextual := true}) [List.range, List.range.loop, ints, intss, int, bool, row, frac, fracs, ← List.map_take, ← List.map_drop, intss, row, hk, hk1, hwk, hfn, hfa, fshare, frac, hb, e0, e1, ww0, ww1, hw]
      done
  · intro _
    have hc := hcb r0.2.length (by omega) (by omega)
    have hge : (cntS r0.2 r1.2 r0.2.length).1 ≤ (cntS r0.2 r1.2 r0.2.length).2 := by unfold giveR at hg; split at hg <;> omega
    have hdz := deal_zero hO (x := (cntS r0.2 r1.2 r0.2.length).2) (y := (cntS r0.2 r1.2 r0.2.length).1) hfn hge (by omega) (by omega)
    have hgive : (decide ((cntS r0.2 r1.2 r0.2.length).1 < (cntS r0.2 r1.2 r0.2.length).2)) = decide ((1 : Int) = 1) := by
      unfold giveR at hg; split at hg <;> simp [*] at *
    generalize hR : dealL r1.2 r0.2 1 (tOrd [r0, r1] 1) ((cntS r0.2 r1.2 r0.2.length).2, (cntS r0.2 r1.2 r0.2.length).1, fsA r0.2 r1.2 r0.2.length) = R at *
    generalize hs0 : (((cntS r0.2 r1.2 r0.2.length).2, (cntS r0.2 r1.2 r0.2.length).1, fsA r0.2 r1.2 r0.2.length) : DSt) = s0 at *
    have hs1 : (cntS r0.2 r1.2 r0.2.length).2 = s0.1 := by rw [← hs0]
    have hs2 : (cntS r0.2 r1.2 r0.2.length).1 = s0.2.1 := by rw [← hs0]
    have hs3 : fsA r0.2 r1.2 r0.2.length = s0.2.2 := by rw [← hs0]
    generalize (tOrd [r0, r1] 1).isEmpty = oe at *
    generalize hord' : tOrd [r0, r1] 1 = ord at *
    have hst0 : dealT r1.2 r0.2 1 ord s0 0 = s0 := rfl
    simp (config := {contextual := true}) [List.range, List.range.loop, ints, intss, int, bool, row, frac, fracs, ← List.map_take, ← List.map_drop, intss, row, hgive, mBoolInt_at, hT, ww0, ww1]
    refine awp_range (live := [true, false, true, true, true, true, true, true, false, true, true, true, true, false, false, false, true, false, false, true, true, true, true, false, false, false, false, false, false, false, false, false, false, false, false, false, false, false, false, false, false, false, false, false, false, false, false, false, false, false, false, true, true, true, true, false, false, false, false, false, false, false, false, false, false, false, false, false, false, false, false, false, false, false, false, false, false, false, false, false, false, false, false, true, false, false, false, false, false, false, false, false, false, false, false, false, false, false, false, false, false, false, false, false, false, false, false, false, false, false, false, false, false, false, false, false, false, false, true]) (ctx_ok eqOk hG) mixed [true, false, false, true, true, false, false, true, false, false, false, false, false, false, false, false, false, false, false, false, false, false, false, false, false, false, false, false, false, false, false, false, false, false, false, false, false, false, false, false, false, false, false, false, false, false, false, false, false, false, false, true, true, true] (ord.length) (fun k => DealP r1.2 r0.2 1 r0.2.length ord R k (dealT r1.2 r0.2 1 ord s0 k)) (fun k => ⟨[intss nl [r0, r1], .junk, .junk, .ref 0 [] 0 r0.2.length, .ptr 1 [] 0 0, .junk, .junk, int 1, .junk, .junk, .junk, .junk, .junk, .junk, .junk, .junk, .junk, .junk, .junk, .junk, .junk, .junk, .junk, .junk, .junk, .junk, .junk, .junk, .junk, .junk, .junk, .junk, .junk, .junk, .junk, .junk, .junk, .junk, .junk, .junk, .junk, .junk, .junk, .junk, .junk, .junk, .junk, .junk, .junk, .junk, .junk, .ref 2 [] 0 ord.length, int ord.length, int k, .junk, .junk, .junk, .junk, .junk, .junk, .junk, .junk, .junk, .junk, .junk, .junk, .junk, .junk, .junk, .junk, .junk, .junk, .junk, .junk, .junk, .junk, .junk, .junk, .junk, .junk, .junk, .junk, .junk, .junk, .junk, .junk, .junk, .junk, .junk, .junk, .junk, .junk, .junk, .junk, .junk, .junk, .junk, .junk, .junk, .junk, .junk, .junk, .junk, .junk, .junk, .junk, .junk, .junk, .junk, .junk, .junk, .junk, .junk, .junk, .junk, .junk, .junk, .junk, .junk, .junk, .junk, .junk, .junk, .junk, .junk, .junk, .junk, .junk, .junk, .junk, .junk], [⟨true, .sl false 2 ((dealT r1.2 r0.2 1 ord s0 k).2.2.map frac)⟩, ⟨true, .sl false 2 [arr1 (dealT r1.2 r0.2 1 ord s0 k)]⟩, ⟨true, .sl oe 1 (ord.map int)⟩]⟩) ?_ (by simp [sub, slotsLe, clean, keep, refsL, refs, once, place, renL, ren, List.replicate, int, bool, intss, row, hst0, arr1, hs1, hs2, hs3]) ?_ ?_ ?_
    · omega
    · exact hdz
    · intro k hk hp hwk
      obtain ⟨i, hi, hin, hpos, hau, hav⟩ := ord_at hO hk
      have hnext : dealT r1.2 r0.2 1 ord s0 (k + 1) = ((dealT r1.2 r0.2 1 ord s0 k).1 - at0 r1.2 i, (dealT r1.2 r0.2 1 ord s0 k).2.1 + at0 r0.2 i, (dealT r1.2 r0.2 1 ord s0 k).2.2.set i (1, 1)) := by
        rw [dealT, show ord.getD k 0 = (i : Int) by simp [List.getD_eq_getElem?_getD, hk, hi]]
        simp [dealS]
      rw [hnext]
      clear hnext
      generalize dealT r1.2 r0.2 1 ord s0 k = s at *
      have hln := hp.ln
      have hge := hp.ge
      have hy0 := hp.y0
      have hx1 := hp.x1
      have hi0 : i < r0.2.length := hin
      have hi1 : i < r1.2.length := by omega
      have e0 : r0.2[i] = at0 r0.2 i := (at0_eq hi0).symm
      have e1 : r1.2[i] = at0 r1.2 i := (at0_eq hi1).symm
      have hw1 : IntKind.i64.wrap (s.1 - at0 r1.2 i) = s.1 - at0 r1.2 i := wrapI (by omega) (by omega)
      have hw2 : IntKind.i64.wrap (s.2.1 + at0 r0.2 i) = s.2.1 + at0 r0.2 i := wrapI (by omega) (by omega)
      have hw3 : IntKind.i64.wrap (s.1 - s.2.1) = s.1 - s.2.1 := wrapI (by omega) (by omega)
      have hw4 : IntKind.i64.wrap (at0 r1.2 i + at0 r0.2 i) = at0 r1.2 i + at0 r0.2 i := wrapI (by omega) (by omega)
      have hset0 : ∀ a b : Int, (s.2.2.map frac).set i (.agg [.v (.int .i64 a), .v (.int .i64 b)]) = (s.2.2.set i (a, b)).map frac := fun a b => by rw [List.map_set]; rfl
      have hset := hset0 1 1
      have hlsh : (s.2.2.set i (1, 1)).length = r0.2.length := by simp [hln]
      simp only
      by_cases hcond : s.2.1 + at0 r0.2 i ≤ s.1 - at0 r1.2 i
      · have hstep := deal_step hO hp hk hi hcond
        generalize s.2.2.set i (1, 1) = sh' at *
        simp (config := {maxSteps := 1000000}) [List.range, List.range.loop, ints, intss, int, bool, row, frac, fracs, ← List.map_take, ← List.map_drop, intss, row, arr1, hk, hwk, hi, hin, hi1, hln, e0, e1, ww0, ww1, hw1, hw2, hcond, mWhole_at, hset, hlsh, hstep]
        done
      · have hstop := deal_stop hO hp hk hi hcond
        obtain ⟨p, q, hpq, hpart⟩ := spl_part (d := s.1 - s.2.1) (w := at0 r1.2 i + at0 r0.2 i) (by omega) (by omega) (by omega)
        have hsub := mMinus_at 1 1 p q (part_facts hpart).1
        rw [(sub_part hpart).1] at hsub
        have hred := mRed_at (s.1 - s.2.1) (at0 r1.2 i + at0 r0.2 i) (by omega)
        rw [show redF (s.1 - s.2.1) (at0 r1.2 i + at0 r0.2 i) = mkF (s.1 - s.2.1) (at0 r1.2 i + at0 r0.2 i) by unfold redF; rw [if_neg (by omega)], hpq] at hred
        have hspl : splF 1 (s.1 - s.2.1) (at0 r1.2 i + at0 r0.2 i) = if (1 : Int) = 0 then (q - p, q) else (p, q) := by unfold splF; rw [hpq]
        rw [hspl] at hstop
        have hset2 := hset0 (if (1 : Int) = 0 then q - p else p) q
        rw [show (((if (1 : Int) = 0 then q - p else p), q) : Int × Int) = if (1 : Int) = 0 then (q - p, q) else (p, q) by split <;> rfl, ← hstop] at hset2
        have hlR : R.length = r0.2.length := by rw [hstop]; simp [hln]
        simp only [ite_true, ite_false, eq_self, show ((1 : Int) = 0) = False from by simp] at hset2
        clear hstop hset hlsh hset0
        simp (config := {maxSteps := 1000000}) [List.range, List.range.loop, ints, intss, int, bool, row, frac, fracs, ← List.map_take, ← List.map_drop, intss, row, arr1, hk, hwk, hi, hin, hi1, hln, e0, e1, ww0, ww1, hw1, hw2, hw3, hw4, hcond, mWhole_at, hset2, hlR, hred, hsub]
        done
    · intro hp
      have hend := deal_end hp rfl
      have hln := hp.ln
      subst hend
      simp (config := {contextual := true}) [List.range, List.range.loop, ints, intss, int, bool, row, frac, fracs, ← List.map_take, ← List.map_drop, hln]
      done

theorem points_two {xss : List (Bool × List Int)} (h : pointsB xss = true) : ∃ r0 r1, xss = [r0, r1] := by
  have := (points_facts h).1
  match xss, this with
  | [r0, r1], _ => exact ⟨r0, r1, rfl⟩

theorem giveR_or (c : Int × Int) : giveR c = 0 ∨ giveR c = 1 := by unfold giveR; split <;> simp

set_option maxHeartbeats 2000000 in
theorem implAdj_ok : FnOk Try.prog 20 mAdj := by
  refine mk_ok fun ⟨nl, xss⟩ _ => ?_
  simp only
  cases h1 : pointsB xss with
  | true =>
    obtain ⟨r0, r1, rfl⟩ := points_two h1
    rcases giveR_or (cntS r0.2 r1.2 r0.2.length) with hg | hg
    · have := adjI_0 nl r0 r1 h1 hg
      simpa [adjL, h1, hg] using this
    · have := adjI_1 nl r0 r1 h1 hg
      simpa [adjL, h1, hg] using this
  | false =>
    rw [adj_no h1]
    refine callOk_nil (a := 1) ?_
    have hG : FnsOk Try.prog [(23, mPoints), (22, mFirst), (56, mBoolInt), (28, mTOi), (57, mWhole), (58, mRed), (59, mMinus)] := (.cons implPointsOk_ok (.cons implFirst_ok (.cons boolInt_ok (.cons implTransfer_ok (.cons whole_ok (.cons reduced_ok (.cons minus_ok .nil)))))))
    refine callOk_awp (ctx_ok eqOk hG) mixed (live := [true, false, true, true, true, true, true, true, false, true, true, true, true, false, false, false, true, false, false, true, true, true, true, false, false, false, false, false, false, false, false, false, false, false, false, false, false, false, false, false, false, false, false, false, false, false, false, false, false, false, false, true, true, true, true, false, false, false, false, false, false, false, false, false, false, false, false, false, false, false, false, false, false, false, false, false, false, false, false, false, false, false, false, true, false, false, false, false, false, false, false, false, false, false, false, false, false, false, false, false, false, false, false, false, false, false, false, false, false, false, false, false, false, false, false, false, false, false, true]) (dt := [(8, ⟨[], [], []⟩), (14, ⟨[], [], []⟩), (15, ⟨[], [], []⟩), (19, ⟨[(14, 16)], [0, 0, 0, 0, 0, 0, 0, 0, 0, 0, 0, 0, 0, 0, 0, 1], []⟩), (21, ⟨[(5, 6)], [], []⟩)]) Try.func20 rfl (by kernel_rfl) (by kernel_rfl) fun w0 hlens => ?_
    clear hlens
    simp (config := {contextual := true}) [Try.f20, List.range, List.range.loop, ints, intss, int, bool, row, frac, fracs, ← List.map_take, ← List.map_drop, mPoints_at, h1]

end Go.Proofs.Ytakladjlnkojjaa.Ax

/-
  The heirs' law: what its calls answer; contracts of the program's CountSplit and of the laws' sum. No condition.
-/
namespace Go.Proofs.Ytakladjlnkojjaa.Ax
open Go Go.RowKit
set_option linter.unusedSimpArgs false

noncomputable def mSplit : List AV → Option AV := mk (fun p => p.2.length ≤ 1000) (fun (p : (Bool) × (List (Int × Int))) => [fracs p.1 p.2]) (fun p => int (p.2.countP isSpl))
theorem mSplit_at (nl : Bool) (fs : List (Int × Int)) (hpre : fs.length ≤ 1000) : mSplit [.sl nl 2 (fs.map frac)] = some (.v (.int .i64 (fs.countP isSpl))) :=
  mk_eq (enc := fun (p : (Bool) × (List (Int × Int))) => [fracs p.1 p.2]) (x := (nl, fs)) (by rintro ⟨a0, a1⟩ ⟨b0, b1⟩ h; simp [ints, intss, int, bool, row, frac, fracs, map_int_inj, map_row_inj, frac_inj, map_frac_inj] at h; simp [h]) hpre

set_option maxHeartbeats 2000000 in
theorem implSplit_ok : FnOk Try.prog 26 mSplit := by
  refine mk_ok fun ⟨nl, fs⟩ hp => ?_
  simp only at hp
  have hG : FnsOk Try.prog [(67, mFracOk), (57, mWhole)] := (.cons implFractionOk_ok (.cons whole_ok .nil))
  refine callOk_awp (ctx_ok eqOk hG) mixed (live := [true, false, true, true, false, true, true, true, true, true, false, false, false, false, false, false, false, false, false, false, false, false, false, true]) (dt := [(5, ⟨[], [], []⟩)]) Try.func26 rfl (by kernel_rfl) (by kernel_rfl) fun w0 hlens => ?_
  clear hlens
  simp [Try.f26, List.range, List.range.loop, ints, intss, int, bool, row, frac, fracs, ← List.map_take, ← List.map_drop]
  refine awp_range (live := [true, false, true, true, false, true, true, true, true, true, false, false, false, false, false, false, false, false, false, false, false, false, false, true]) (ctx_ok eqOk hG) mixed [false, false, false, true, false, false, true, true, true] (fs.length) (fun k => True) (fun k => ⟨[.junk, .junk, .junk, int ((fs.take k).countP isSpl), .junk, .junk, fracs nl fs, int fs.length, int k, .junk, .junk, .junk, .junk, .junk, .junk, .junk, .junk, .junk, .junk, .junk, .junk, .junk, .junk, .junk, .junk, .junk, .junk, .junk], []⟩) ?_ (by simp [sub, slotsLe, clean, keep, refsL, refs, once, place, renL, ren, List.replicate, int, bool, fracs]) ?_ ?_ ?_
  · omega
  · trivial
  · intro k hk _ hwk
    obtain ⟨⟨t, b⟩, hx⟩ : ∃ f, fs[k] = f := ⟨_, rfl⟩
    have hs : (fs.take (k + 1)).countP isSpl = (fs.take k).countP isSpl + if isSpl (t, b) = true then 1 else 0 := by
      rw [List.take_succ_eq_append_getElem hk, List.countP_append, hx, List.countP_singleton]
    have hle : (fs.take k).countP isSpl ≤ k := Nat.le_trans List.countP_le_length (List.length_take_le _ _)
    have hw : IntKind.i64.wrap (((fs.take k).countP isSpl : Int) + 1) = ((fs.take k).countP isSpl : Int) + 1 := wrapI (by omega) (by omega)
    cases h1 : fracOk (t, b) with
    | false =>
      simp [isSpl, h1] at hs
      simp [List.range, List.range.loop, ints, intss, int, bool, row, frac, fracs, ← List.map_take, ← List.map_drop, hk, hx, hwk, mFracOk_at, mWhole_at, h1, hs]
    | true =>
      by_cases h2 : t = 0 ∧ b = 1
      · obtain ⟨rfl, rfl⟩ := h2
        simp [isSpl, h1] at hs
        simp [List.range, List.range.loop, ints, intss, int, bool, row, frac, fracs, ← List.map_take, ← List.map_drop, hk, hx, hwk, mFracOk_at, mWhole_at, h1, hs]
      · by_cases h3 : t = 1 ∧ b = 1
        · obtain ⟨rfl, rfl⟩ := h3
          simp [isSpl, h1] at hs
          simp [List.range, List.range.loop, ints, intss, int, bool, row, frac, fracs, ← List.map_take, ← List.map_drop, hk, hx, hwk, mFracOk_at, mWhole_at, h1, hs]
        · simp [isSpl, h1, h2, h3] at hs
          simp [List.range, List.range.loop, ints, intss, int, bool, row, frac, fracs, ← List.map_take, ← List.map_drop, hk, hx, hwk, mFracOk_at, mWhole_at, h1, h2, h3, hs, hw]
  · intro _
    simp [List.range, List.range.loop, ints, intss, int, bool, row, frac, fracs, ← List.map_take, ← List.map_drop]

/-- What the law finds. -/
structure HF (r0 r1 : List Int) (R F : List (Int × Int)) (O : List Int) (p q x y : Int) : Prop where
  pts : pointsB [(false, r0), (false, r1)] = true
  ea : adjL [(false, r0), (false, r1)] = R
  ef : firstL [(false, r0), (false, r1)] = F
  eo : tOrd [(false, r0), (false, r1)] 0 = O
  a0 : heirF [(false, r0), (false, r1)] R 0 = ((p, q), true)
  a1 : heirF [(false, r0), (false, r1)] R 1 = ((p, q), true)
  f0 : heirF [(false, r0), (false, r1)] F 0 = ((x, 1), true)
  f1 : heirF [(false, r0), (false, r1)] F 1 = ((y, 1), true)
  lr : R.length = r0.length
  lf : F.length = r0.length
  l1 : r1.length = r0.length
  n1 : 1 ≤ r0.length
  n6 : r0.length ≤ 6
  sh : sharesB [(false, r0), (false, r1)] R = true
  eq : equalHB [(false, r0), (false, r1)] R = true
  half : 50 * q ≤ p
  spa : R.countP isSpl ≤ 1
  spf : F.countP isSpl = 0
  ba : bestHB [(false, r0), (false, r1)] R = true
  bf : bestHB [(false, r0), (false, r1)] F = true
  most : p.tdiv q * 2 ≤ x + y
  q0 : 0 < q ∧ q ≤ 200
  p0 : 0 ≤ p ∧ p ≤ 200000
  x0 : 0 ≤ x ∧ x ≤ 200000
  y0 : 0 ≤ y ∧ y ≤ 200000
  on : O.length ≤ 6
  or' : ∀ k (hk : k < O.length), ∃ i : Nat, O[k] = i ∧ i < r0.length ∧ F.getD i (0, 0) = (1, 1) ∧ ∀ m : Nat, (hm : 0 < k) → O[k - 1]'(by omega) = (m : Int) → at0 r0 m * at0 r1 i ≤ at0 r0 i * at0 r1 m
  b0 : ∀ i, i < r0.length → 0 ≤ at0 r0 i ∧ at0 r0 i ≤ 100
  b1 : ∀ i, i < r0.length → 0 ≤ at0 r1 i ∧ at0 r1 i ≤ 100

theorem qd_top {N D : Int} (hD : 0 < D) (hN : 0 ≤ N) : 0 ≤ (qd N D).1 ∧ (qd N D).1 ≤ N ∧ (qd N D).2 ≤ D := by
  obtain ⟨g, g0, e1, e2⟩ := qd_parts (a := N) hD
  have hq := qd_den (a := N) hD
  have hp : 0 ≤ (qd N D).1 := by
    rcases Int.lt_or_le (qd N D).1 0 with h1 | h1
    · have := Int.mul_lt_mul_of_pos_right h1 g0; omega
    · exact h1
  have h1 := Int.mul_le_mul_of_nonneg_left (show 1 ≤ g by omega) hp
  have h2 := Int.mul_le_mul_of_nonneg_left (show 1 ≤ g by omega) (show 0 ≤ (qd N D).2 by omega)
  omega

theorem heirs_facts {r0 r1 : List Int} (hpt : pointsB [(false, r0), (false, r1)] = true) : ∃ R F O p q x y, HF r0 r1 R F O p q x y := by
  have hp := pts_of hpt
  have hF := first_hrs hp
  obtain ⟨D, t, hR, hE⟩ := adj_hrs hp
  have he : sm (wg r0 r1 D t 0) r0.length = sm (wg r0 r1 D t 1) r0.length := by
    have e0 : wg r0 r1 D t 0 = fun g => at0 r0 g * t g := funext fun g => wg_0
    have e1 : wg r0 r1 D t 1 = fun g => at0 r1 g * (D - t g) := funext fun g => wg_1
    rw [e0, e1]; exact hE
  have a0 := heirF_qd hp hR (who := 0) (.inl rfl)
  have a1 := heirF_qd hp hR (who := 1) (.inr rfl)
  have f0 := heirF_qd hp hF (who := 0) (.inl rfl)
  have f1 := heirF_qd hp hF (who := 1) (.inr rfl)
  simp only at a0 a1 f0 f1
  rw [← he] at a1
  rw [qd_int] at f0 f1
  have hh := hrs_half hp hR he
  have hm := first_most hp hR
  simp only at hh hm
  rw [← he] at hm
  have hD := hR.d1
  have hD2 := hR.d2
  have n6 : r0.length ≤ 6 := hp.n6
  have hs0 := sm_bd (f := wg r0 r1 D t 0) (c := 20000) (n := r0.length) fun i hi => wg_bd hp hR hi
  have hx := sm_bd (f := wg r0 r1 1 (fi r0 r1) 0) (c := 20000) (n := r0.length) fun i hi => wg_bd hp hF hi
  have hy := sm_bd (f := wg r0 r1 1 (fi r0 r1) 1) (c := 20000) (n := r0.length) fun i hi => wg_bd hp hF hi
  have htop := qd_top (D := D) (by omega) hs0.1
  have ef : firstL [(false, r0), (false, r1)] = fsA r0 r1 r0.length := by simp [firstL, hpt]
  have ord := order0 hp
  refine ⟨adjL [(false, r0), (false, r1)], fsA r0 r1 r0.length, tOrd [(false, r0), (false, r1)] 0, (qd (sm (wg r0 r1 D t 0) r0.length) D).1, (qd (sm (wg r0 r1 D t 0) r0.length) D).2, sm (wg r0 r1 1 (fi r0 r1) 0) r0.length, sm (wg r0 r1 1 (fi r0 r1) 1) r0.length, hpt, rfl, ef, rfl, a0, a1, f0, f1, hR.ln, fsA_len, hp.l1, hp.n1, n6, hrs_shares hp hR, ?_, half_top (by omega) hh, hrs_split hR, first_split, hrs_best hp hR, hrs_best hp hF, most_top (by omega) hs0.1 hm, ⟨qd_den (by omega), Int.le_trans htop.2.2 hD2⟩, ⟨htop.1, Int.le_trans htop.2.1 (by omega)⟩, ⟨hx.1, by omega⟩, ⟨hy.1, by omega⟩, ?_, fun k hk => ?_, hp.b0, hp.b1⟩
  · simp only [equalHB, a0, a1, decide_true, Bool.and_self]
  · have e : tOrd [(false, r0), (false, r1)] 0 = isort (ratC r0 r1) (selTo (selB r0 r1 0) r0.length) := by simp [tOrd, hpt]
    rw [e, isort_len]
    have := selTo_len (p := selB r0 r1 0) (k := r0.length)
    omega
  · obtain ⟨i, e1, e2, e3, e4⟩ := ord k hk
    refine ⟨i, e1, e2, ?_, e4⟩
    rw [fsA_at e2, e3]

end Go.Proofs.Ytakladjlnkojjaa.Ax
