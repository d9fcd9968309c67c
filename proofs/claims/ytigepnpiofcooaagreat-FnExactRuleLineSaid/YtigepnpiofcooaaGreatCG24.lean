/-
  Contracts: who wins by a rule (both programs). No condition.
-/
import Derived.Test.YtigepnpiofcooaaGreatCG23
import Derived.Test.YtigepnpiofcooaaGreatCG7
namespace Go.Proofs.YtigepnpiofcooaaGreat.Ax
open Go Go.RowKit
set_option linter.unusedSimpArgs false
theorem grT_ie {l : List Int} (h : 0 < l.length) : (grT l).isEmpty = false := by
  cases hz : grT l with
  | nil => exact (grT_ne h hz).elim
  | cons _ _ => rfl
abbrev PrK := Int × Int × Bool × List Vt
theorem PrK_inj {x y : PrK} (h : [int x.1, prof x.2.1 x.2.2.1 x.2.2.2] = [int y.1, prof y.2.1 y.2.2.1 y.2.2.2]) : x.1 = y.1 ∧ x.2.1 = y.2.1 ∧ x.2.2.2 = y.2.2.2 := by
  simp [int, prof, map_vote_inj] at h
  exact ⟨h.1, h.2.1, h.2.2.2⟩
noncomputable def mWnI : List AV → Option AV := mk (fun _ => True) (fun (p : PrK) => [int p.1, prof p.2.1 p.2.2.1 p.2.2.2]) (fun p => .sl (wnA p.2.1 p.2.2.2 p.1).isEmpty 1 ((wnA p.2.1 p.2.2.2 p.1).map int))
theorem mWnI_at (k s : Int) (nl : Bool) (vs : List Vt) : mWnI [.v (.int .i64 k), .agg [.v (.int .i64 s), .sl nl 2 (vs.map vote)]] = some (.sl (wnA s vs k).isEmpty 1 ((wnA s vs k).map int)) :=
  mk_eq (enc := fun (p : PrK) => [int p.1, prof p.2.1 p.2.2.1 p.2.2.2]) (x := (k, s, nl, vs)) (fun x y h => by
    obtain ⟨h1, h2, h3⟩ := PrK_inj h
    rw [h1, h2, h3]) trivial
noncomputable def mWnS : List AV → Option AV := mk (fun _ => True) (fun (p : PrK) => [int p.1, prof p.2.1 p.2.2.1 p.2.2.2]) (fun p => .sl (!profB p.2.1 p.2.2.2) 1 ((wnA p.2.1 p.2.2.2 p.1).map int))
theorem mWnS_at (k s : Int) (nl : Bool) (vs : List Vt) : mWnS [.v (.int .i64 k), .agg [.v (.int .i64 s), .sl nl 2 (vs.map vote)]] = some (.sl (!profB s vs) 1 ((wnA s vs k).map int)) :=
  mk_eq (enc := fun (p : PrK) => [int p.1, prof p.2.1 p.2.2.1 p.2.2.2]) (x := (k, s, nl, vs)) (fun x y h => by
    obtain ⟨h1, h2, h3⟩ := PrK_inj h
    rw [h1, h2, h3]) trivial
set_option maxHeartbeats 8000000 in
theorem implWn1 (k : Int) (S : Nat) (nl : Bool) (vs : List Vt) (h : profB (S : Int) vs = true) : CallOk Tryz.prog 13 [int k, prof (S : Int) nl vs] (.sl (wnT vs S k).isEmpty 1 ((wnT vs S k).map int)) := by
  obtain ⟨h1, h2, h3⟩ := prof_facts h
  have hwt := (wtB_ok S (by omega)).resolve_left (by omega)
  have hpp := mProf_at (S : Int) nl vs
  rw [h] at hpp
  have hG : FnsOk Tryz.prog [(19, mProf), (21, mPlW), (20, mSwn), (22, mBoW), (23, mVeW), (25, mCop), (24, mGreat), (26, mMmx), (27, mRun), (29, mIns), (28, mLast), (30, mCoo), (31, mBal), (32, mBuc), (33, mSzw), (34, mPkR), (35, mKr)] := (.cons implProf_ok (.cons implPlurality_ok (.cons implSwn_ok (.cons implBorda_ok (.cons implVeto_ok (.cons implCop_ok (.cons greatest_ok (.cons implMmx_ok (.cons implRun_ok (.cons implInstant_ok (.cons implLast_ok (.cons implCoombs_ok (.cons implBaldwin_ok (.cons implBuc_ok (.cons implSzw_ok (.cons implPkR_ok (.cons implKr_ok .nil)))))))))))))))))
  refine callOk_awpZ [0] (ctx_ok eqOk hG) mixed (live := [true, true, false, true, true, false, false, true, true, true, false, false, false, false, false, false, true, false, false, false, false, false, false, true, false, false, false, false, false, false, true, false, false, false, false, true, false, false, false, false, true, false, false, false, false, true, false, false, false, false, false, true, false, false, false, false, false, true, false, false, false, false, false, true, false, false, false, false, true, false, false, false, true, false, false, false, false, false, false, true]) (dt := [(5, ⟨[], [0, 0, 0, 1, 1], []⟩), (7, ⟨[], [0, 0, 0, 1, 1], []⟩), (9, ⟨[], [0, 0, 0, 1, 1], []⟩)]) Tryz.func13 rfl (by kernel_rfl) (by kernel_rfl) fun w0 hlens => ?_
  clear hlens
  by_cases k1 : k = 1
  · subst k1
    have ew : wnT vs S 1 = grT (scV (plW S) S vs) := by simp [wnT]
    rw [ew]
    have c1 := mPlW_at S ⟨by omega, by omega⟩
    have c2 := mSwn_at S nl vs false (plW S) ⟨h, hwt.1⟩
    have hie := grT_ie (l := scV (plW S) S vs) (by rw [scV_len]; omega)
    have hwl := (wt_facts hwt.1).2.2.1
    generalize grT (scV (plW S) S vs) = A at *
    generalize plW S = B at *
    have hAt : A.take A.length = A := List.take_length
    have hBt : B.take S = B := List.take_of_length_le (by omega)
    have hBt2 : B.take B.length = B := List.take_length
    simp [Tryz.f13, List.range, List.range.loop, ints, intss, int, bool, row, frac, fracs, ← List.map_take, ← List.map_drop, List.all, andThen_n, freeze, frzA, frzAL, sets, prof, hpp, c1, c2, hwl, hAt, hBt, hBt2, hie]
  by_cases k2 : k = 2
  · subst k2
    have ew : wnT vs S 2 = grT (scV (boW S) S vs) := by simp [wnT]
    rw [ew]
    have c1 := mBoW_at S ⟨by omega, by omega⟩
    have c2 := mSwn_at S nl vs false (boW S) ⟨h, hwt.2.1⟩
    have hie := grT_ie (l := scV (boW S) S vs) (by rw [scV_len]; omega)
    have hwl := (wt_facts hwt.2.1).2.2.1
    generalize grT (scV (boW S) S vs) = A at *
    generalize boW S = B at *
    have hAt : A.take A.length = A := List.take_length
    have hBt : B.take S = B := List.take_of_length_le (by omega)
    have hBt2 : B.take B.length = B := List.take_length
    simp [Tryz.f13, List.range, List.range.loop, ints, intss, int, bool, row, frac, fracs, ← List.map_take, ← List.map_drop, List.all, andThen_n, freeze, frzA, frzAL, sets, prof, hpp, c1, c2, hwl, hAt, hBt, hBt2, hie]
  by_cases k3 : k = 3
  · subst k3
    have ew : wnT vs S 3 = grT (scV (veW S) S vs) := by simp [wnT]
    rw [ew]
    have c1 := mVeW_at S ⟨by omega, by omega⟩
    have c2 := mSwn_at S nl vs false (veW S) ⟨h, hwt.2.2⟩
    have hie := grT_ie (l := scV (veW S) S vs) (by rw [scV_len]; omega)
    have hwl := (wt_facts hwt.2.2).2.2.1
    generalize grT (scV (veW S) S vs) = A at *
    generalize veW S = B at *
    have hAt : A.take A.length = A := List.take_length
    have hBt : B.take S = B := List.take_of_length_le (by omega)
    have hBt2 : B.take B.length = B := List.take_length
    simp [Tryz.f13, List.range, List.range.loop, ints, intss, int, bool, row, frac, fracs, ← List.map_take, ← List.map_drop, List.all, andThen_n, freeze, frzA, frzAL, sets, prof, hpp, c1, c2, hwl, hAt, hBt, hBt2, hie]
  by_cases k4 : k = 4
  · subst k4
    have ew : wnT vs S 4 = grT (coT vs S) := by simp [wnT]
    rw [ew]
    have c1 := mCop_at S nl vs h
    have hl : (coT vs S).length = S := by simp [coT]
    have hie := grT_ie (l := coT vs S) (by omega)
    have c2 := mGr_at false (coT vs S) (by omega) (by omega)
    generalize grT (coT vs S) = A at *
    generalize coT vs S = B at *
    have hAt : A.take A.length = A := List.take_length
    have hBt : B.take S = B := List.take_of_length_le (by omega)
    have hBt2 : B.take B.length = B := List.take_length
    simp [Tryz.f13, List.range, List.range.loop, ints, intss, int, bool, row, frac, fracs, ← List.map_take, ← List.map_drop, List.all, andThen_n, freeze, frzA, frzAL, sets, prof, hpp, c1, c2, hl, hAt, hBt, hBt2, hie]
  by_cases k5 : k = 5
  · subst k5
    have ew : wnT vs S 5 = grT (mmT vs S) := by simp [wnT]
    rw [ew]
    have c1 := mMmx_at S nl vs h
    have hl : (mmT vs S).length = S := by simp [mmT]
    have hie := grT_ie (l := mmT vs S) (by omega)
    have c2 := mGr_at false (mmT vs S) (by omega) (by omega)
    generalize grT (mmT vs S) = A at *
    generalize mmT vs S = B at *
    have hAt : A.take A.length = A := List.take_length
    have hBt : B.take S = B := List.take_of_length_le (by omega)
    have hBt2 : B.take B.length = B := List.take_length
    simp [Tryz.f13, List.range, List.range.loop, ints, intss, int, bool, row, frac, fracs, ← List.map_take, ← List.map_drop, List.all, andThen_n, freeze, frzA, frzAL, sets, prof, hpp, c1, c2, hl, hAt, hBt, hBt2, hie]
  by_cases k6 : k = 6
  · subst k6
    have ew : wnT vs S 6 = [ruT vs S] := by simp [wnT]
    rw [ew]
    have c1 := mRun_at S nl vs h
    simp [Tryz.f13, List.range, List.range.loop, ints, intss, int, bool, row, frac, fracs, ← List.map_take, ← List.map_drop, List.all, andThen_n, freeze, frzA, frzAL, sets, prof, hpp, c1]
  by_cases k7 : k = 7
  · subst k7
    have ew : wnT vs S 7 = [at0 (elT (wkT vs 0) S S) (S - 1)] := by simp [wnT]
    rw [ew]
    have c1 := mIns_at S nl vs h
    have hl := (elT_facts (W := wkT vs 0) (s := S) (Nat.le_refl S)).1
    have c2 := mLast_at false (elT (wkT vs 0) S S) ⟨by omega, by omega⟩
    rw [hl] at c2
    generalize elT (wkT vs 0) S S = B at *
    have hBt : B.take S = B := List.take_of_length_le (by omega)
    simp [Tryz.f13, List.range, List.range.loop, ints, intss, int, bool, row, frac, fracs, ← List.map_take, ← List.map_drop, List.all, andThen_n, freeze, frzA, frzAL, sets, prof, hpp, c1, c2, hl, hBt]
  by_cases k8 : k = 8
  · subst k8
    have ew : wnT vs S 8 = [at0 (elT (wkT vs 1) S S) (S - 1)] := by simp [wnT]
    rw [ew]
    have c1 := mCoo_at S nl vs h
    have hl := (elT_facts (W := wkT vs 1) (s := S) (Nat.le_refl S)).1
    have c2 := mLast_at false (elT (wkT vs 1) S S) ⟨by omega, by omega⟩
    rw [hl] at c2
    generalize elT (wkT vs 1) S S = B at *
    have hBt : B.take S = B := List.take_of_length_le (by omega)
    simp [Tryz.f13, List.range, List.range.loop, ints, intss, int, bool, row, frac, fracs, ← List.map_take, ← List.map_drop, List.all, andThen_n, freeze, frzA, frzAL, sets, prof, hpp, c1, c2, hl, hBt]
  by_cases k9 : k = 9
  · subst k9
    have ew : wnT vs S 9 = [at0 (elT (wkT vs 2) S S) (S - 1)] := by simp [wnT]
    rw [ew]
    have c1 := mBal_at S nl vs h
    have hl := (elT_facts (W := wkT vs 2) (s := S) (Nat.le_refl S)).1
    have c2 := mLast_at false (elT (wkT vs 2) S S) ⟨by omega, by omega⟩
    rw [hl] at c2
    generalize elT (wkT vs 2) S S = B at *
    have hBt : B.take S = B := List.take_of_length_le (by omega)
    simp [Tryz.f13, List.range, List.range.loop, ints, intss, int, bool, row, frac, fracs, ← List.map_take, ← List.map_drop, List.all, andThen_n, freeze, frzA, frzAL, sets, prof, hpp, c1, c2, hl, hBt]
  by_cases k10 : k = 10
  · subst k10
    have ew : wnT vs S 10 = [bwT vs S] := by simp [wnT]
    rw [ew]
    have c1 := mBuc_at S nl vs h
    simp [Tryz.f13, List.range, List.range.loop, ints, intss, int, bool, row, frac, fracs, ← List.map_take, ← List.map_drop, List.all, andThen_n, freeze, frzA, frzAL, sets, prof, hpp, c1]
  by_cases k11 : k = 11
  · subst k11
    have ew : wnT vs S 11 = szT vs S := by simp [wnT]
    rw [ew]
    have c1 := mSzw_at S nl vs h
    generalize szT vs S = A at *
    have hAt : A.take A.length = A := List.take_length
    simp [Tryz.f13, List.range, List.range.loop, ints, intss, int, bool, row, frac, fracs, ← List.map_take, ← List.map_drop, List.all, andThen_n, freeze, frzA, frzAL, sets, prof, hpp, c1, hAt]
  by_cases k12 : k = 12
  · subst k12
    have ew : wnT vs S 12 = [at0 (pkA vs S) 0] := by simp [wnT]
    rw [ew]
    have c1 := mPkR_at S nl vs h
    have hl : (pkA vs S).length = S := by
        obtain ⟨hac, hpr⟩ := kpA_facts (S := S) (vs := vs) (by omega)
        exact (pkT_facts hac hpr (k := S) (Nat.le_refl _)).1
    generalize pkA vs S = B at *
    have h0 : 0 < B.length := by omega
    have e0 : B[0] = at0 B 0 := (at0_eq h0).symm
    have h1 : 1 ≤ B.length := by omega
    have ht1 : B.take 1 = [at0 B 0] := by
        cases B with
        | nil => simp at h0
        | cons x B => rfl
    have hS0 : 0 < S := by omega
    have hS1 : 1 ≤ S := by omega
    have hBt : B.take S = B := List.take_of_length_le (by omega)
    simp [Tryz.f13, List.range, List.range.loop, ints, intss, int, bool, row, frac, fracs, ← List.map_take, ← List.map_drop, List.all, andThen_n, freeze, frzA, frzAL, sets, prof, hpp, c1, hl, h0, e0, h1, ht1, hS0, hS1, hBt, ← List.map_take]
  by_cases k13 : k = 13
  · subst k13
    have ew : wnT vs S 13 = [at0 (lsB (fun l => kmT l vs) (S : Int)) 0] := by simp [wnT]
    rw [ew]
    have c1 := mKr_at (S : Int) nl vs h
    have hl : (lsB (fun l => kmT l vs) (S : Int)).length = S := (rk_nat (kr_in h)).1
    generalize lsB (fun l => kmT l vs) (S : Int) = B at *
    have h0 : 0 < B.length := by omega
    have e0 : B[0] = at0 B 0 := (at0_eq h0).symm
    have h1 : 1 ≤ B.length := by omega
    have ht1 : B.take 1 = [at0 B 0] := by
        cases B with
        | nil => simp at h0
        | cons x B => rfl
    have hS0 : 0 < S := by omega
    have hS1 : 1 ≤ S := by omega
    have hBt : B.take S = B := List.take_of_length_le (by omega)
    simp [Tryz.f13, List.range, List.range.loop, ints, intss, int, bool, row, frac, fracs, ← List.map_take, ← List.map_drop, List.all, andThen_n, freeze, frzA, frzAL, sets, prof, hpp, c1, hl, h0, e0, h1, ht1, hS0, hS1, hBt, ← List.map_take]
  have b1 : (k == 1) = false := by simpa using k1
  have b2 : (k == 2) = false := by simpa using k2
  have b3 : (k == 3) = false := by simpa using k3
  have b4 : (k == 4) = false := by simpa using k4
  have b5 : (k == 5) = false := by simpa using k5
  have b6 : (k == 6) = false := by simpa using k6
  have b7 : (k == 7) = false := by simpa using k7
  have b8 : (k == 8) = false := by simpa using k8
  have b9 : (k == 9) = false := by simpa using k9
  have b10 : (k == 10) = false := by simpa using k10
  have b11 : (k == 11) = false := by simpa using k11
  have b12 : (k == 12) = false := by simpa using k12
  have b13 : (k == 13) = false := by simpa using k13
  have ew : wnT vs S k = [] := by simp [wnT, k1, k2, k3, k4, k5, k6, k7, k8, k9, k10, k11, k12, k13]
  rw [ew]
  simp [Tryz.f13, List.range, List.range.loop, ints, intss, int, bool, row, frac, fracs, ← List.map_take, ← List.map_drop, List.all, andThen_n, freeze, frzA, frzAL, sets, prof, hpp, k1, k2, k3, k4, k5, k6, k7, k8, k9, k10, k11, k12, k13, b1, b2, b3, b4, b5, b6, b7, b8, b9, b10, b11, b12, b13]
theorem implWn_ok : FnOk Tryz.prog 13 mWnI := by
  refine mk_ok fun ⟨k, s, nl, vs⟩ _ => ?_
  simp only
  unfold wnA
  cases h : profB s vs with
  | true =>
    obtain ⟨S, rfl⟩ : ∃ S : Nat, s = S := ⟨s.toNat, by have := (prof_facts h).1; omega⟩
    exact implWn1 k S nl vs h
  | false =>
    have hpp := mProf_at s nl vs
    rw [h] at hpp
    have hG : FnsOk Tryz.prog [(19, mProf), (21, mPlW), (20, mSwn), (22, mBoW), (23, mVeW), (25, mCop), (24, mGreat), (26, mMmx), (27, mRun), (29, mIns), (28, mLast), (30, mCoo), (31, mBal), (32, mBuc), (33, mSzw), (34, mPkR), (35, mKr)] := (.cons implProf_ok (.cons implPlurality_ok (.cons implSwn_ok (.cons implBorda_ok (.cons implVeto_ok (.cons implCop_ok (.cons greatest_ok (.cons implMmx_ok (.cons implRun_ok (.cons implInstant_ok (.cons implLast_ok (.cons implCoombs_ok (.cons implBaldwin_ok (.cons implBuc_ok (.cons implSzw_ok (.cons implPkR_ok (.cons implKr_ok .nil)))))))))))))))))
    refine callOk_awpZ [0] (ctx_ok eqOk hG) mixed (live := [true, true, false, true, true, false, false, true, true, true, false, false, false, false, false, false, true, false, false, false, false, false, false, true, false, false, false, false, false, false, true, false, false, false, false, true, false, false, false, false, true, false, false, false, false, true, false, false, false, false, false, true, false, false, false, false, false, true, false, false, false, false, false, true, false, false, false, false, true, false, false, false, true, false, false, false, false, false, false, true]) (dt := [(5, ⟨[], [0, 0, 0, 1, 1], []⟩), (7, ⟨[], [0, 0, 0, 1, 1], []⟩), (9, ⟨[], [0, 0, 0, 1, 1], []⟩)]) Tryz.func13 rfl (by kernel_rfl) (by kernel_rfl) fun w0 hlens => ?_
    clear hlens
    simp [Tryz.f13, List.range, List.range.loop, ints, intss, int, bool, row, frac, fracs, ← List.map_take, ← List.map_drop, List.all, andThen_n, freeze, frzA, frzAL, sets, prof, hpp]
def ruB (k : Int) : Bool := decide (k = 1) || decide (k = 2) || decide (k = 3) || decide (k = 4) || decide (k = 5) || decide (k = 6) || decide (k = 7) || decide (k = 8) || decide (k = 9) || decide (k = 10) || decide (k = 11) || decide (k = 12) || decide (k = 13)
set_option maxHeartbeats 8000000 in
theorem specWn1 (k : Int) (S : Nat) (nl : Bool) (vs : List Vt) (h : profB (S : Int) vs = true) : CallOk Tryz.prog 17 [int k, prof (S : Int) nl vs] (.sl (!ruB k) 1 ((wnT vs S k).map int)) := by
  obtain ⟨h1, h2, h3⟩ := prof_facts h
  have hwt := (wtB_ok S (by omega)).resolve_left (by omega)
  have hG : FnsOk Tryz.prog [(41, mPlW), (40, mSwn), (42, mBoW), (43, mVeW), (45, mCop), (44, mBest), (46, mMmx), (47, mRun), (49, mIns), (48, mLast), (50, mCoo), (51, mBal), (52, mBuc), (53, mSzs), (54, mPkR), (55, mKr)] := (.cons specPlurality_ok (.cons specSwn_ok (.cons specBorda_ok (.cons specVeto_ok (.cons specCop_ok (.cons l05Best_ok (.cons specMmx_ok (.cons specRun_ok (.cons specInstant_ok (.cons specLast_ok (.cons specCoombs_ok (.cons specBaldwin_ok (.cons specBuc_ok (.cons specSzw_ok (.cons specPkR_ok (.cons specKr_ok .nil))))))))))))))))
  refine callOk_awpZ [0] (ctx_ok eqOk hG) mixed (live := [true, true, false, true, true, true, true, false, false, false, false, false, false, true, false, false, false, false, false, false, true, false, false, false, false, false, false, true, false, false, false, false, true, false, false, false, false, true, false, false, false, false, true, false, false, false, false, false, true, false, false, false, false, false, true, false, false, false, false, false, true, false, false, false, false, true, false, false, false, true, false, false, false, false, true]) (dt := [(3, ⟨[], [0, 0, 0, 1, 1], []⟩), (5, ⟨[], [0, 0, 0, 1, 1], []⟩), (7, ⟨[], [0, 0, 0, 1, 1], []⟩)]) Tryz.func17 rfl (by kernel_rfl) (by kernel_rfl) fun w0 hlens => ?_
  clear hlens
  by_cases k1 : k = 1
  · subst k1
    have ew : wnT vs S 1 = grT (scV (plW S) S vs) := by simp [wnT]
    rw [ew]
    have c1 := mPlW_at S ⟨by omega, by omega⟩
    have c2 := mSwn_at S nl vs false (plW S) ⟨h, hwt.1⟩
    have hie := grT_ie (l := scV (plW S) S vs) (by rw [scV_len]; omega)
    have hwl := (wt_facts hwt.1).2.2.1
    generalize grT (scV (plW S) S vs) = A at *
    generalize plW S = B at *
    have hAt : A.take A.length = A := List.take_length
    have hBt : B.take S = B := List.take_of_length_le (by omega)
    have hBt2 : B.take B.length = B := List.take_length
    simp [Tryz.f17, List.range, List.range.loop, ints, intss, int, bool, row, frac, fracs, ← List.map_take, ← List.map_drop, List.all, andThen_n, freeze, frzA, frzAL, sets, prof, ruB, c1, c2, hwl, hAt, hBt, hBt2, hie]
  by_cases k2 : k = 2
  · subst k2
    have ew : wnT vs S 2 = grT (scV (boW S) S vs) := by simp [wnT]
    rw [ew]
    have c1 := mBoW_at S ⟨by omega, by omega⟩
    have c2 := mSwn_at S nl vs false (boW S) ⟨h, hwt.2.1⟩
    have hie := grT_ie (l := scV (boW S) S vs) (by rw [scV_len]; omega)
    have hwl := (wt_facts hwt.2.1).2.2.1
    generalize grT (scV (boW S) S vs) = A at *
    generalize boW S = B at *
    have hAt : A.take A.length = A := List.take_length
    have hBt : B.take S = B := List.take_of_length_le (by omega)
    have hBt2 : B.take B.length = B := List.take_length
    simp [Tryz.f17, List.range, List.range.loop, ints, intss, int, bool, row, frac, fracs, ← List.map_take, ← List.map_drop, List.all, andThen_n, freeze, frzA, frzAL, sets, prof, ruB, c1, c2, hwl, hAt, hBt, hBt2, hie]
  by_cases k3 : k = 3
  · subst k3
    have ew : wnT vs S 3 = grT (scV (veW S) S vs) := by simp [wnT]
    rw [ew]
    have c1 := mVeW_at S ⟨by omega, by omega⟩
    have c2 := mSwn_at S nl vs false (veW S) ⟨h, hwt.2.2⟩
    have hie := grT_ie (l := scV (veW S) S vs) (by rw [scV_len]; omega)
    have hwl := (wt_facts hwt.2.2).2.2.1
    generalize grT (scV (veW S) S vs) = A at *
    generalize veW S = B at *
    have hAt : A.take A.length = A := List.take_length
    have hBt : B.take S = B := List.take_of_length_le (by omega)
    have hBt2 : B.take B.length = B := List.take_length
    simp [Tryz.f17, List.range, List.range.loop, ints, intss, int, bool, row, frac, fracs, ← List.map_take, ← List.map_drop, List.all, andThen_n, freeze, frzA, frzAL, sets, prof, ruB, c1, c2, hwl, hAt, hBt, hBt2, hie]
  by_cases k4 : k = 4
  · subst k4
    have ew : wnT vs S 4 = grT (coT vs S) := by simp [wnT]
    rw [ew]
    have c1 := mCop_at S nl vs h
    have hl : (coT vs S).length = S := by simp [coT]
    have hie := grT_ie (l := coT vs S) (by omega)
    have c2 := mBe_at false (coT vs S) (by omega)
    generalize grT (coT vs S) = A at *
    generalize coT vs S = B at *
    have hAt : A.take A.length = A := List.take_length
    have hBt : B.take S = B := List.take_of_length_le (by omega)
    have hBt2 : B.take B.length = B := List.take_length
    simp [Tryz.f17, List.range, List.range.loop, ints, intss, int, bool, row, frac, fracs, ← List.map_take, ← List.map_drop, List.all, andThen_n, freeze, frzA, frzAL, sets, prof, ruB, c1, c2, hl, hAt, hBt, hBt2, hie]
  by_cases k5 : k = 5
  · subst k5
    have ew : wnT vs S 5 = grT (mmT vs S) := by simp [wnT]
    rw [ew]
    have c1 := mMmx_at S nl vs h
    have hl : (mmT vs S).length = S := by simp [mmT]
    have hie := grT_ie (l := mmT vs S) (by omega)
    have c2 := mBe_at false (mmT vs S) (by omega)
    generalize grT (mmT vs S) = A at *
    generalize mmT vs S = B at *
    have hAt : A.take A.length = A := List.take_length
    have hBt : B.take S = B := List.take_of_length_le (by omega)
    have hBt2 : B.take B.length = B := List.take_length
    simp [Tryz.f17, List.range, List.range.loop, ints, intss, int, bool, row, frac, fracs, ← List.map_take, ← List.map_drop, List.all, andThen_n, freeze, frzA, frzAL, sets, prof, ruB, c1, c2, hl, hAt, hBt, hBt2, hie]
  by_cases k6 : k = 6
  · subst k6
    have ew : wnT vs S 6 = [ruT vs S] := by simp [wnT]
    rw [ew]
    have c1 := mRun_at S nl vs h
    simp [Tryz.f17, List.range, List.range.loop, ints, intss, int, bool, row, frac, fracs, ← List.map_take, ← List.map_drop, List.all, andThen_n, freeze, frzA, frzAL, sets, prof, ruB, c1]
  by_cases k7 : k = 7
  · subst k7
    have ew : wnT vs S 7 = [at0 (elT (wkT vs 0) S S) (S - 1)] := by simp [wnT]
    rw [ew]
    have c1 := mIns_at S nl vs h
    have hl := (elT_facts (W := wkT vs 0) (s := S) (Nat.le_refl S)).1
    have c2 := mLast_at false (elT (wkT vs 0) S S) ⟨by omega, by omega⟩
    rw [hl] at c2
    generalize elT (wkT vs 0) S S = B at *
    have hBt : B.take S = B := List.take_of_length_le (by omega)
    simp [Tryz.f17, List.range, List.range.loop, ints, intss, int, bool, row, frac, fracs, ← List.map_take, ← List.map_drop, List.all, andThen_n, freeze, frzA, frzAL, sets, prof, ruB, c1, c2, hl, hBt]
  by_cases k8 : k = 8
  · subst k8
    have ew : wnT vs S 8 = [at0 (elT (wkT vs 1) S S) (S - 1)] := by simp [wnT]
    rw [ew]
    have c1 := mCoo_at S nl vs h
    have hl := (elT_facts (W := wkT vs 1) (s := S) (Nat.le_refl S)).1
    have c2 := mLast_at false (elT (wkT vs 1) S S) ⟨by omega, by omega⟩
    rw [hl] at c2
    generalize elT (wkT vs 1) S S = B at *
    have hBt : B.take S = B := List.take_of_length_le (by omega)
    simp [Tryz.f17, List.range, List.range.loop, ints, intss, int, bool, row, frac, fracs, ← List.map_take, ← List.map_drop, List.all, andThen_n, freeze, frzA, frzAL, sets, prof, ruB, c1, c2, hl, hBt]
  by_cases k9 : k = 9
  · subst k9
    have ew : wnT vs S 9 = [at0 (elT (wkT vs 2) S S) (S - 1)] := by simp [wnT]
    rw [ew]
    have c1 := mBal_at S nl vs h
    have hl := (elT_facts (W := wkT vs 2) (s := S) (Nat.le_refl S)).1
    have c2 := mLast_at false (elT (wkT vs 2) S S) ⟨by omega, by omega⟩
    rw [hl] at c2
    generalize elT (wkT vs 2) S S = B at *
    have hBt : B.take S = B := List.take_of_length_le (by omega)
    simp [Tryz.f17, List.range, List.range.loop, ints, intss, int, bool, row, frac, fracs, ← List.map_take, ← List.map_drop, List.all, andThen_n, freeze, frzA, frzAL, sets, prof, ruB, c1, c2, hl, hBt]
  by_cases k10 : k = 10
  · subst k10
    have ew : wnT vs S 10 = [bwT vs S] := by simp [wnT]
    rw [ew]
    have c1 := mBuc_at S nl vs h
    simp [Tryz.f17, List.range, List.range.loop, ints, intss, int, bool, row, frac, fracs, ← List.map_take, ← List.map_drop, List.all, andThen_n, freeze, frzA, frzAL, sets, prof, ruB, c1]
  by_cases k11 : k = 11
  · subst k11
    have ew : wnT vs S 11 = szT vs S := by simp [wnT]
    rw [ew]
    have c1 := mSzs_at S nl vs h
    generalize szT vs S = A at *
    have hAt : A.take A.length = A := List.take_length
    simp [Tryz.f17, List.range, List.range.loop, ints, intss, int, bool, row, frac, fracs, ← List.map_take, ← List.map_drop, List.all, andThen_n, freeze, frzA, frzAL, sets, prof, ruB, c1, hAt]
  by_cases k12 : k = 12
  · subst k12
    have ew : wnT vs S 12 = [at0 (pkA vs S) 0] := by simp [wnT]
    rw [ew]
    have c1 := mPkR_at S nl vs h
    have hl : (pkA vs S).length = S := by
        obtain ⟨hac, hpr⟩ := kpA_facts (S := S) (vs := vs) (by omega)
        exact (pkT_facts hac hpr (k := S) (Nat.le_refl _)).1
    generalize pkA vs S = B at *
    have h0 : 0 < B.length := by omega
    have e0 : B[0] = at0 B 0 := (at0_eq h0).symm
    have h1 : 1 ≤ B.length := by omega
    have ht1 : B.take 1 = [at0 B 0] := by
        cases B with
        | nil => simp at h0
        | cons x B => rfl
    have hS0 : 0 < S := by omega
    have hS1 : 1 ≤ S := by omega
    have hBt : B.take S = B := List.take_of_length_le (by omega)
    simp [Tryz.f17, List.range, List.range.loop, ints, intss, int, bool, row, frac, fracs, ← List.map_take, ← List.map_drop, List.all, andThen_n, freeze, frzA, frzAL, sets, prof, ruB, c1, hl, h0, e0, h1, ht1, hS0, hS1, hBt, ← List.map_take]
    by_cases e : 1 = S
    · subst e
      rw [ht1] at hBt
      have hBm : B.map int = [.v (.int .i64 (at0 B 0))] := congrArg (List.map int) hBt.symm
      simp [alt, hBm]
    · simp [alt, e]
  by_cases k13 : k = 13
  · subst k13
    have ew : wnT vs S 13 = [at0 (lsB (fun l => kmT l vs) (S : Int)) 0] := by simp [wnT]
    rw [ew]
    have c1 := mKr_at (S : Int) nl vs h
    have hl : (lsB (fun l => kmT l vs) (S : Int)).length = S := (rk_nat (kr_in h)).1
    generalize lsB (fun l => kmT l vs) (S : Int) = B at *
    have h0 : 0 < B.length := by omega
    have e0 : B[0] = at0 B 0 := (at0_eq h0).symm
    have h1 : 1 ≤ B.length := by omega
    have ht1 : B.take 1 = [at0 B 0] := by
        cases B with
        | nil => simp at h0
        | cons x B => rfl
    have hS0 : 0 < S := by omega
    have hS1 : 1 ≤ S := by omega
    have hBt : B.take S = B := List.take_of_length_le (by omega)
    simp [Tryz.f17, List.range, List.range.loop, ints, intss, int, bool, row, frac, fracs, ← List.map_take, ← List.map_drop, List.all, andThen_n, freeze, frzA, frzAL, sets, prof, ruB, c1, hl, h0, e0, h1, ht1, hS0, hS1, hBt, ← List.map_take]
    by_cases e : 1 = S
    · subst e
      rw [ht1] at hBt
      have hBm : B.map int = [.v (.int .i64 (at0 B 0))] := congrArg (List.map int) hBt.symm
      simp [alt, hBm]
    · simp [alt, e]
  have b1 : (k == 1) = false := by simpa using k1
  have b2 : (k == 2) = false := by simpa using k2
  have b3 : (k == 3) = false := by simpa using k3
  have b4 : (k == 4) = false := by simpa using k4
  have b5 : (k == 5) = false := by simpa using k5
  have b6 : (k == 6) = false := by simpa using k6
  have b7 : (k == 7) = false := by simpa using k7
  have b8 : (k == 8) = false := by simpa using k8
  have b9 : (k == 9) = false := by simpa using k9
  have b10 : (k == 10) = false := by simpa using k10
  have b11 : (k == 11) = false := by simpa using k11
  have b12 : (k == 12) = false := by simpa using k12
  have b13 : (k == 13) = false := by simpa using k13
  have ew : wnT vs S k = [] := by simp [wnT, k1, k2, k3, k4, k5, k6, k7, k8, k9, k10, k11, k12, k13]
  rw [ew]
  simp [Tryz.f17, List.range, List.range.loop, ints, intss, int, bool, row, frac, fracs, ← List.map_take, ← List.map_drop, List.all, andThen_n, freeze, frzA, frzAL, sets, prof, ruB, k1, k2, k3, k4, k5, k6, k7, k8, k9, k10, k11, k12, k13, b1, b2, b3, b4, b5, b6, b7, b8, b9, b10, b11, b12, b13]
theorem specWn_ok : FnOk Tryz.prog 10 mWnS := by
  refine mk_ok fun ⟨k, s, nl, vs⟩ _ => ?_
  simp only
  unfold wnA
  have hpp := mProf_at s nl vs
  cases h : profB s vs with
  | true =>
    rw [h] at hpp
    obtain ⟨S, rfl⟩ : ∃ S : Nat, s = S := ⟨s.toNat, by have := (prof_facts h).1; omega⟩
    obtain ⟨m, hm, hz⟩ := as_model (specWn1 k S nl vs h)
    have hcn := (wnT_cn h k).1
    simp only [prof, int] at hz
    have hG : FnsOk Tryz.prog [(16, mProf), (17, m)] := (.cons specProf_ok (.cons hm .nil))
    refine callOk_awpZ [0] (ctx_ok eqOk hG) mixed (live := [true, true, false, true, true, false, false, true]) (dt := []) Tryz.func10 rfl (by kernel_rfl) (by kernel_rfl) fun w0 hlens => ?_
    clear hlens
    rw [Int.toNat_natCast]
    generalize wnT vs S k = A at *
    have hAt : A.take A.length = A := List.take_length
    have hbb : A.length * 8 ≤ 140737488355328 ∧ A.length ≤ 4611686018427387904 := by omega
    generalize ruB k = b at *
    cases b with
    | true =>
      simp at hz
      simp [Tryz.f10, List.range, List.range.loop, ints, intss, int, bool, row, frac, fracs, ← List.map_take, ← List.map_drop, List.all, andThen_n, freeze, frzA, frzAL, sets, prof, hpp, hz, hAt, hbb]
    | false =>
      simp at hz
      simp [Tryz.f10, List.range, List.range.loop, ints, intss, int, bool, row, frac, fracs, ← List.map_take, ← List.map_drop, List.all, andThen_n, freeze, frzA, frzAL, sets, prof, hpp, hz, hAt, hbb]
  | false =>
    rw [h] at hpp
    have hM : FnsMut Tryz.prog [] := .nil
    obtain ⟨m, hm⟩ : ∃ m, FnOk Tryz.prog 17 m := ⟨fun _ => none, fun _ _ h => by cases h⟩
    have hG : FnsOk Tryz.prog [(16, mProf), (17, m)] := (.cons specProf_ok (.cons hm .nil))
    refine callOk_awpZ [0] (ctx_ok eqOk hG) mixed (live := [true, true, false, true, true, false, false, true]) (dt := []) Tryz.func10 rfl (by kernel_rfl) (by kernel_rfl) fun w0 hlens => ?_
    clear hlens
    simp [Tryz.f10, List.range, List.range.loop, ints, intss, int, bool, row, frac, fracs, ← List.map_take, ← List.map_drop, List.all, andThen_n, freeze, frzA, frzAL, sets, prof, hpp]
end Go.Proofs.YtigepnpiofcooaaGreat.Ax
namespace Go.Proofs.YtigepnpiofcooaaGreat.Ax
open Go Go.RowKit
set_option linter.unusedSimpArgs false
noncomputable def ruS (s : Int) (vs : List Vt) (k : Int) : ByteArray := if (wnA s vs k).length = 0 then ⟨#[110, 111, 110, 101]⟩ else frkS (wnA s vs k)
noncomputable def mRul : List AV → Option AV := mk (fun _ => True) (fun (p : PrK) => [int p.1, prof p.2.1 p.2.2.1 p.2.2.2]) (fun p => .v (.string (ruS p.2.1 p.2.2.2 p.1)))
theorem mRul_at (k s : Int) (nl : Bool) (vs : List Vt) : mRul [.v (.int .i64 k), .agg [.v (.int .i64 s), .sl nl 2 (vs.map vote)]] = some (.v (.string (ruS s vs k))) :=
  mk_eq (enc := fun (p : PrK) => [int p.1, prof p.2.1 p.2.2.1 p.2.2.2]) (x := (k, s, nl, vs)) (fun x y h => by
    obtain ⟨h1, h2, h3⟩ := PrK_inj h
    rw [h1, h2, h3]) trivial
set_option maxHeartbeats 2000000 in
theorem implRul_ok : FnOk Tryz.prog 7 mRul := by
  refine mk_ok fun ⟨k, s, nl, vs⟩ _ => ?_
  simp only
  have hw := mWnI_at k s nl vs
  have hcn := wnA_cn s vs k
  unfold ruS
  have hG : FnsOk Tryz.prog [(13, mWnI)] := (.cons implWn_ok .nil)
  refine callOk_awpZ [0] (ctx_ok eqOk hG) mixed (live := [true, true, false, true, true, true, true, true, true, false, false, false, false, false, true, false, false, false, true, true, true, true]) (dt := []) Tryz.func7 rfl (by kernel_rfl) (by kernel_rfl) fun w0 hlens => ?_
  clear hlens
  generalize wnA s vs k = l at *
  obtain ⟨hl5, hin⟩ := hcn
  by_cases h0 : l.length = 0
  · obtain rfl : l = [] := List.length_eq_zero_iff.1 h0
    simp at hw
    simp [Tryz.f7, List.range, List.range.loop, ints, intss, int, bool, row, frac, fracs, ← List.map_take, ← List.map_drop, andThen_n, freeze, frzA, frzAL, sets, prof, hw]
  · have hie : l.isEmpty = false := by cases l with | nil => simp at h0 | cons _ _ => rfl
    rw [hie] at hw
    rw [if_neg h0]
    have h0I : ¬ (l.length : Int) = 0 := by omega
    have hlt : l.take l.length = l := List.take_length
    have hz : List.replicate l.length (AV.v (.int .u8 0)) = (flT l 0).map byV := by simp [flT, byV]
    have hl6 : l.length ≤ 281474976710656 ∧ l.length ≤ 4611686018427387904 := by omega
    simp [Tryz.f7, List.range, List.range.loop, ints, intss, int, bool, row, frac, fracs, ← List.map_take, ← List.map_drop, andThen_n, freeze, frzA, frzAL, sets, prof, hw, h0, h0I, hl6]
    refine awp_range (live := [true, true, false, true, true, true, true, true, true, false, false, false, false, false, true, false, false, false, true, true, true, true]) (ctx_ok eqOk hG) mixed [false, false, false, false, false, false, true, false, false, false, false, false, false, false, false, false, false, false, true, true, true] (l.length) (fun i => True) (fun i => ⟨[.junk, .junk, .junk, .junk, .junk, .junk, .ref 0 [] 0 l.length, .junk, .junk, .junk, .junk, .junk, .junk, .junk, .junk, .junk, .junk, .junk, .ref 1 [] 0 l.length, int l.length, int i, .junk, .junk, .junk, .junk, .junk, .junk, .junk, .junk, .junk, .junk, .junk, .junk, .junk], [⟨true, .sl false 1 ((flT l i).map byV)⟩, ⟨true, .sl false 1 (l.map int)⟩]⟩) ?_ (by simp [sub, slotsLe, clean, keep, refsL, refs, once, place, renL, ren, List.replicate, int, bool, hz]) ?_ ?_ ?_
    · omega
    · trivial
    · intro i hi _ hwi
      have hiI : (i : Int) < (l.length : Int) := by omega
      have hv := hin l[i] (List.getElem_mem hi)
      have hs : flT l (i + 1) = (flT l i).set i (97 + at0 l i) := rfl
      rw [at0_eq hi] at hs
      have hfl := flT_len (l := l) (k := i)
      have w1 : IntKind.i64.wrap (97 + l[i]) = 97 + l[i] := wrapI (by omega) (by omega)
      have w2 : IntKind.u8.wrap (97 + l[i]) = 97 + l[i] := by
        generalize l[i] = x at *
        obtain ⟨y, rfl⟩ : ∃ y : Nat, x = y := ⟨x.toNat, by omega⟩
        exact (by decide +kernel : ∀ y : Nat, y < 6 → IntKind.u8.wrap (97 + (y : Int)) = 97 + (y : Int)) y (by omega)
      have hm : (flT l (i + 1)).map byV = ((flT l i).map byV).set i (AV.v (.int .u8 (97 + l[i]))) := by rw [hs, List.map_set]; rfl
      generalize flT l (i + 1) = B at *
      generalize flT l i = A at *
      simp [List.range, List.range.loop, ints, intss, int, bool, row, frac, fracs, ← List.map_take, ← List.map_drop, nlt0, hi, hiI, hwi, w1, w2, hfl, hm]
      try simp [byV]
    · intro _
      have e := flT_all (l := l)
      have hfl := flT_len (l := l) (k := l.length)
      have hb := bytesOf_by (flT l l.length)
      have hf : frkS l = ⟨((flT l l.length).map fun n => UInt8.ofNat n.toNat).toArray⟩ := by
        rw [e, List.map_map]; rfl
      rw [hf]
      generalize flT l l.length = A at *
      have ht : (A.map byV).take l.length = A.map byV := List.take_of_length_le (by simp; omega)
      simp [List.range, List.range.loop, ints, intss, int, bool, row, frac, fracs, ← List.map_take, ← List.map_drop, nlt0, hfl, hb, ht]
set_option maxHeartbeats 2000000 in
theorem specRul_ok : FnOk Tryz.prog 5 mRul := by
  refine mk_ok fun ⟨k, s, nl, vs⟩ _ => ?_
  simp only
  have hw := mWnS_at k s nl vs
  have hcn := wnA_cn s vs k
  unfold ruS
  have hG : FnsOk Tryz.prog [(10, mWnS), (11, mLet)] := (.cons specWn_ok (.cons let_ok .nil))
  refine callOk_awpZ [0] (ctx_ok eqOk hG) mixed (live := [true, true, false, true, true, true, false, true, false, false, true, true, true, true, false, false, false, false, false, false, false, false, true]) (dt := []) Tryz.func5 rfl (by kernel_rfl) (by kernel_rfl) fun w0 hlens => ?_
  clear hlens
  have hnil : (!profB s vs) = true → wnA s vs k = [] := fun h => by
    unfold wnA
    rw [if_neg (by simpa using h)]
  generalize wnA s vs k = l at *
  obtain ⟨hl5, hin⟩ := hcn
  have hz : frkS (l.take 0) = ⟨#[]⟩ := rfl
  have hz2 : frkS [] = ⟨#[]⟩ := rfl
  cases hn : (!profB s vs) with
  | true =>
    have := hnil hn
    subst this
    rw [hn] at hw
    simp at hw
    simp [Tryz.f5, List.range, List.range.loop, ints, intss, int, bool, row, frac, fracs, ← List.map_take, ← List.map_drop, andThen_n, freeze, frzA, frzAL, sets, prof, hw]
    refine awp_range (live := [true, true, false, true, true, true, false, true, false, false, true, true, true, true, false, false, false, false, false, false, false, false, true]) (ctx_ok eqOk hG) mixed [false, false, false, false, false, true, false, false, false, false, true, true, true] (0) (fun i => True) (fun i => ⟨[.junk, .junk, .junk, .junk, .junk, .v (.string ⟨#[]⟩), .junk, .junk, .junk, .junk, .ref 0 [] 0 0, int 0, int i, .junk, .junk, .junk, .junk, .junk, .junk, .junk, .junk, .junk, .junk, .junk], [⟨true, .sl true 1 []⟩]⟩) ?_ (by simp [sub, slotsLe, clean, keep, refsL, refs, once, place, renL, ren, List.replicate, int, bool, hz, hz2]) ?_ ?_ ?_
    · omega
    · trivial
    · intro i hi; omega
    · intro _
      simp [List.range, List.range.loop, ints, intss, int, bool, row, frac, fracs, ← List.map_take, ← List.map_drop]
  | false =>
    rw [hn] at hw
    have hlt : l.take l.length = l := List.take_length
    simp [Tryz.f5, List.range, List.range.loop, ints, intss, int, bool, row, frac, fracs, ← List.map_take, ← List.map_drop, andThen_n, freeze, frzA, frzAL, sets, prof, hw]
    refine awp_range (live := [true, true, false, true, true, true, false, true, false, false, true, true, true, true, false, false, false, false, false, false, false, false, true]) (ctx_ok eqOk hG) mixed [false, false, false, false, false, true, false, false, false, false, true, true, true] (l.length) (fun i => True) (fun i => ⟨[.junk, .junk, .junk, .junk, .junk, .v (.string (frkS (l.take i))), .junk, .junk, .junk, .junk, .ref 0 [] 0 l.length, int l.length, int i, .junk, .junk, .junk, .junk, .junk, .junk, .junk, .junk, .junk, .junk, .junk], [⟨true, .sl false 1 (l.map int)⟩]⟩) ?_ (by simp [sub, slotsLe, clean, keep, refsL, refs, once, place, renL, ren, List.replicate, int, bool, hz, hz2]) ?_ ?_ ?_
    · omega
    · trivial
    · intro i hi _ hwi
      have hiI : (i : Int) < (l.length : Int) := by omega
      have hv := hin l[i] (List.getElem_mem hi)
      have hL := mLet_at l[i] (by omega)
      have hs := frk_step hi
      have hsz : (frkS (l.take i)).size = i := by
        show (List.map leB (l.take i)).toArray.size = i
        simp; omega
      have h1 : (⟨#[leB l[i]]⟩ : ByteArray).size = 1 := rfl
      have h2 : i + 1 ≤ 9223372036854775807 := by omega
      simp [List.range, List.range.loop, ints, intss, int, bool, row, frac, fracs, ← List.map_take, ← List.map_drop, nlt0, hi, hiI, hwi, hL, hs, hsz, h1, h2]
    · intro _
      by_cases h0 : l.length = 0
      · obtain rfl : l = [] := List.length_eq_zero_iff.1 h0
        simp [List.range, List.range.loop, ints, intss, int, bool, row, frac, fracs, ← List.map_take, ← List.map_drop, nlt0, hz2]
      · have hne : ¬ frkS l = ⟨#[]⟩ := fun h => h0 (by
          have := congrArg ByteArray.size h
          change (List.map leB l).toArray.size = 0 at this
          simpa using this)
        have hnl : ¬ (frkS l).toList = [] := fun e => by
          rw [ByteArray.toList_eq] at e
          exact hne (bl_inj e)
        have hl0 : ¬ l = [] := fun e => h0 (by rw [e]; rfl)
        simp [List.range, List.range.loop, ints, intss, int, bool, row, frac, fracs, ← List.map_take, ← List.map_drop, nlt0, hlt, h0, hl0, hnl]
end Go.Proofs.YtigepnpiofcooaaGreat.Ax
