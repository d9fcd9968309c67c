/-
  The law FnTexts: it returns true at all codes. No condition.
-/
import Derived.Test.YtkfmhpgnhkdebaaGreatDoorCG11
import Derived.Test.YtkfmhpgnhkdebaaGreatDoorCG17
import Derived.Test.YtkfmhpgnhkdebaaGreatDoorCG20
import Derived.Test.YtkfmhpgnhkdebaaGreatDoorCG16
import Derived.Test.YtkfmhpgnhkdebaaGreatDoorCG22
import Derived.Test.YtkfmhpgnhkdebaaGreatDoorCG13
namespace Go.Proofs.YtkfmhpgnhkdebaaGreatDoor.Ax
open Go Go.RowKit
set_option linter.unusedSimpArgs false
theorem mkPrf_sm {by' : List Int} {n m : Nat} (h1 : 1 ≤ m) (h4 : m ≤ 4) : smP m (mkPrf by' n m) ∧ ∀ v ∈ mkPrf by' n m, v.1.1 = false := by
  obtain ⟨a, b, c, d⟩ := prD_ok (by' := by') (s := crB by' n) (m := m) h1 (by omega)
  refine ⟨⟨h1, h4, a, fun e => ?_, c, fun v hv => (d v hv).2⟩, fun v hv => (d v hv).1⟩
  unfold mkPrf at e
  rw [e] at b; simp at b
set_option maxRecDepth 8000 in
set_option maxHeartbeats 8000000 in
theorem fnTexts_call {nl : Bool} {by' : List Int} : CallOk Tryz.prog 6 [byts nl by'] (.v (.bool true)) := by
  by_cases hlen : by'.length ≤ 1048576
  rotate_left
  · have hG : FnsOk Tryz.prog [(38, mMkNum), (13, mMkPrf), (43, mFFrac), (45, mFpr), (47, mFmk), (24, mFTab), (48, (mPT true)), (21, mFrk), (49, mPrk), (50, mSmp), (51, mTbls), (35, mSame)] := (.cons makeNum_ok (.cons makeProfile_ok (.cons implFormatFraction_ok (.cons implFpr_ok (.cons implFmk_ok (.cons implFormatTable_ok (.cons implPT_ok (.cons implFrk_ok (.cons implPrk_ok (.cons sameProfile_ok (.cons tables_ok (.cons same_ok .nil))))))))))))
    refine callOk_awp (ctx_ok eqOk hG) mixed (live := [true, false, true, true, true, true, true, true, true, true, true, true, true, true, true, true, true, true, false, false, true]) (dt := [(13, ⟨[], [], []⟩)]) Tryz.func6 rfl (by kernel_rfl) (by kernel_rfl) fun w0 hlens => ?_
    have c1 : (1048576 : Int) < by'.length := by omega
    have c2 : 1048576 < by'.length := by omega
    simp [Tryz.f6, List.range, List.range.loop, ints, intss, int, bool, row, frac, fracs, ← List.map_take, ← List.map_drop, byts, c1, c2]
  have c1 : ¬ (1048576 : Int) < by'.length := by omega
  have c2 : ¬ 1048576 < by'.length := by omega
  have hnb := mkNum_bd (by' := by') (n := 8)
  obtain ⟨m, hm, h1, h4⟩ : ∃ m : Nat, 1 + (mkNum by' 8).tmod 4 = m ∧ 1 ≤ m ∧ m ≤ 4 := by
    have e : (mkNum by' 8).tmod 4 = mkNum by' 8 % 4 := Int.tmod_eq_emod_of_nonneg (by omega)
    exact ⟨(1 + (mkNum by' 8).tmod 4).toNat, by omega, by omega, by omega⟩
  have hw1 : IntKind.i64.wrap ((mkNum by' 8).tmod 4) = (mkNum by' 8).tmod 4 := wrapI (by omega) (by omega)
  have hw2 : IntKind.i64.wrap (m : Int) = m := wrapI (by omega) (by omega)
  have n8 : mMkNum [.sl nl 1 (by'.map bAV), .v (.int .i64 8)] = some (.v (.int .i64 (mkNum by' 8))) := mMkNum_at nl by' 8 ⟨hlen, by omega⟩
  -- what is drawn
  obtain ⟨hP, hPf⟩ := mkPrf_sm (by' := by') (n := 10) h1 h4
  have hMk := mkMk_ok (by' := by') (n := 60) (m := 4) (by omega) (by omega)
  have hT : smT (mkTn by' 80) := mkTn_ok
  have hR : rankB 5 (mkRk by' 100 5) = true := rkD_rank (m := 5) (by omega) (by omega)
  have hF : fracOk (mkFr by' 0) = true := frD_ok
  have d2 : mMkPrf [.sl nl 1 (by'.map bAV), .v (.int .i64 10), .v (.int .i64 (m : Int))] = some (.agg [.v (.int .i64 (m : Int)), .sl false 2 ((mkPrf by' 10 m).map vote)]) := mMkPrf_at nl by' 10 m ⟨hlen, by omega, h1, by omega⟩
  obtain ⟨q1, hq1, d1⟩ := as_model (makeFraction_call (nl := nl) hlen 0 (by omega))
  obtain ⟨q3, hq3, d3⟩ := as_model (makeMarket_call (nl := nl) hlen 60 4 (by omega) (by omega) (by omega))
  obtain ⟨q4, hq4, d4⟩ := as_model (makeTenths_call (nl := nl) hlen 80 (by omega))
  obtain ⟨q5, hq5, d5⟩ := as_model (makeRanking_call (nl := nl) hlen 100 5 (by omega) (by omega) (by omega))
  replace d1 : q1 [.sl nl 1 (by'.map bAV), .v (.int .i64 0)] = some (.agg [.v (.int .i64 (mkFr by' 0).1), .v (.int .i64 (mkFr by' 0).2)]) := d1
  replace d3 : q3 [.sl nl 1 (by'.map bAV), .v (.int .i64 60), .v (.int .i64 4)] = some (.agg [.sl false 1 ((mkMkX by' 60 4).map row), .sl false 1 ((mkMkY by' 60 4).map row)]) := d3
  replace d4 : q4 [.sl nl 1 (by'.map bAV), .v (.int .i64 80)] = some (.sl false 1 ((mkTn by' 80).map row)) := d4
  replace d5 : q5 [.sl nl 1 (by'.map bAV), .v (.int .i64 100), .v (.int .i64 5)] = some (.sl false 1 ((mkRk by' 100 5).map int)) := d5
  generalize mkFr by' 0 = f at *
  generalize mkPrf by' 10 m = P at *
  generalize mkMkX by' 60 4 = X at *
  generalize mkMkY by' 60 4 = Y at *
  generalize mkTn by' 80 = T at *
  generalize mkRk by' 100 5 = K at *
  obtain ⟨a, b⟩ := f
  -- what is parsed
  obtain ⟨p1, hp1, e1⟩ := as_model (implPfr (a, b) hF)
  obtain ⟨p2, hp2, e2⟩ := as_model (implPpr m P hP.2.2.1 hP.2.2.2.1 hPf)
  obtain ⟨p3, hp3, e3⟩ := as_model (implPmk X Y hMk)
  have e4 := tab_round hT
  simp only [str, frac, prof, mkt, intss, int] at e1 e2 e3
  have f1 := mFFrac_at a b
  have f2 := mFpr_at m false P
  have hT2 : fprT m P = fprS P := by unfold fprT; rw [if_pos hP.2.2.1, if_neg hP.2.2.2.1]
  rw [hT2] at f2
  have f3 := mFmk_at false X false Y
  have hT3 : fmkT X Y = fmkS X Y := by unfold fmkT; rw [if_pos hMk.1]
  rw [hT3] at f3
  have f4 := mFTab_at false T (smT_tab hT)
  have f5 := mFrk_at false K
  have hK5 : rankB K.length K = true := by have hl := (rank_facts hR).2.2.1; rw [hl]; exact hR
  have hK6 : frkT K = frkS K := frk_T hK5
  obtain ⟨k1, k2, k3⟩ := prk_frk hK5
  have e5 := mPrk_at (frkS K) (by rw [k3]; have := (rank_facts hK5).2.1; omega)
  unfold prkAV at e5
  rw [if_pos k2, k1] at e5
  rw [hK6] at f5
  have g1 := mSmp_at m false false P hP
  have g2 := mTbls_at false X false X
  have g3 := mTbls_at false Y false Y
  have g4 := mTbls_at false T false T
  have g5 := mSame_at false K false K
  simp only [decide_true] at g2 g3 g4 g5
  generalize fracS (a, b) = t1 at *
  generalize fprS P = t2 at *
  generalize fmkS X Y = t3 at *
  generalize tabS T = t4 at *
  generalize frkS K = t5 at *
  generalize mkNum by' 8 = M at *
  clear hP hPf hMk hT hR hF hK5 hK6 k1 k2 k3 hT2 hT3
  have hG : FnsOk Tryz.prog [(37, q1), (38, mMkNum), (13, mMkPrf), (39, q3), (40, q4), (41, q5), (43, mFFrac), (42, p1), (45, mFpr), (44, p2), (47, mFmk), (46, p3), (24, mFTab), (48, (mPT true)), (21, mFrk), (49, mPrk), (50, mSmp), (51, mTbls), (35, mSame)] := (.cons hq1 (.cons makeNum_ok (.cons makeProfile_ok (.cons hq3 (.cons hq4 (.cons hq5 (.cons implFormatFraction_ok (.cons hp1 (.cons implFpr_ok (.cons hp2 (.cons implFmk_ok (.cons hp3 (.cons implFormatTable_ok (.cons implPT_ok (.cons implFrk_ok (.cons implPrk_ok (.cons sameProfile_ok (.cons tables_ok (.cons same_ok .nil)))))))))))))))))))
  refine callOk_of_tr (C := _) (ctx_ok eqOk hG) (dt := [(13, ⟨[], [], []⟩)]) Tryz.func6 rfl (by kernel_rfl) (by kernel_rfl) fun w0 => ?_
  refine tr_seq (tr_awp (live := [true, false, true, true, true, true, true, true, true, true, true, true, true, true, true, true, true, true, false, false, true]) (ctx_ok eqOk hG) mixed _ _ _ ?_)
  simp [Tryz.f6, List.range, List.range.loop, ints, intss, int, bool, row, frac, fracs, ← List.map_take, ← List.map_drop, andThen, byts]
  refine tr_seq (tr_awp (live := [true, false, true, true, true, true, true, true, true, true, true, true, true, true, true, true, true, true, false, false, true]) (ctx_ok eqOk hG) mixed _ _ _ ?_)
  simp [List.range, List.range.loop, ints, intss, int, bool, row, frac, fracs, ← List.map_take, ← List.map_drop, andThen, byts, c1, c2]
  refine tr_seq (tr_awp (live := [true, false, true, true, true, true, true, true, true, true, true, true, true, true, true, true, true, true, false, false, true]) (ctx_ok eqOk hG) mixed _ _ _ ?_)
  simp [List.range, List.range.loop, ints, intss, int, bool, row, frac, fracs, ← List.map_take, ← List.map_drop, andThen, byts, d1]
  refine tr_seq (tr_awp (live := [true, false, true, true, true, true, true, true, true, true, true, true, true, true, true, true, true, true, false, false, true]) (ctx_ok eqOk hG) mixed _ _ _ ?_)
  simp [List.range, List.range.loop, ints, intss, int, bool, row, frac, fracs, ← List.map_take, ← List.map_drop, andThen, byts, n8, hm, hw1, hw2, d2]
  refine tr_seq (tr_awp (live := [true, false, true, true, true, true, true, true, true, true, true, true, true, true, true, true, true, true, false, false, true]) (ctx_ok eqOk hG) mixed _ _ _ ?_)
  simp [List.range, List.range.loop, ints, intss, int, bool, row, frac, fracs, ← List.map_take, ← List.map_drop, andThen, byts, d3]
  refine tr_seq (tr_awp (live := [true, false, true, true, true, true, true, true, true, true, true, true, true, true, true, true, true, true, false, false, true]) (ctx_ok eqOk hG) mixed _ _ _ ?_)
  simp [List.range, List.range.loop, ints, intss, int, bool, row, frac, fracs, ← List.map_take, ← List.map_drop, andThen, byts, d4]
  refine tr_seq (tr_awp (live := [true, false, true, true, true, true, true, true, true, true, true, true, true, true, true, true, true, true, false, false, true]) (ctx_ok eqOk hG) mixed _ _ _ ?_)
  simp [List.range, List.range.loop, ints, intss, int, bool, row, frac, fracs, ← List.map_take, ← List.map_drop, andThen, byts, d5]
  refine tr_seq (tr_awp (live := [true, false, true, true, true, true, true, true, true, true, true, true, true, true, true, true, true, true, false, false, true]) (ctx_ok eqOk hG) mixed _ _ _ ?_)
  simp [List.range, List.range.loop, ints, intss, int, bool, row, frac, fracs, ← List.map_take, ← List.map_drop, andThen, byts, f1, e1]
  refine tr_seq (tr_awp (live := [true, false, true, true, true, true, true, true, true, true, true, true, true, true, true, true, true, true, false, false, true]) (ctx_ok eqOk hG) mixed _ _ _ ?_)
  simp [List.range, List.range.loop, ints, intss, int, bool, row, frac, fracs, ← List.map_take, ← List.map_drop, andThen, byts, f2, e2]
  refine tr_seq (tr_awp (live := [true, false, true, true, true, true, true, true, true, true, true, true, true, true, true, true, true, true, false, false, true]) (ctx_ok eqOk hG) mixed _ _ _ ?_)
  simp [List.range, List.range.loop, ints, intss, int, bool, row, frac, fracs, ← List.map_take, ← List.map_drop, andThen, byts, f3, e3]
  refine tr_seq (tr_awp (live := [true, false, true, true, true, true, true, true, true, true, true, true, true, true, true, true, true, true, false, false, true]) (ctx_ok eqOk hG) mixed _ _ _ ?_)
  simp [List.range, List.range.loop, ints, intss, int, bool, row, frac, fracs, ← List.map_take, ← List.map_drop, andThen, byts, f4, e4]
  refine tr_seq (tr_awp (live := [true, false, true, true, true, true, true, true, true, true, true, true, true, true, true, true, true, true, false, false, true]) (ctx_ok eqOk hG) mixed _ _ _ ?_)
  simp [List.range, List.range.loop, ints, intss, int, bool, row, frac, fracs, ← List.map_take, ← List.map_drop, andThen, byts, f5, e5]
  refine tr_awp (live := [true, false, true, true, true, true, true, true, true, true, true, true, true, true, true, true, true, true, false, false, true]) (ctx_ok eqOk hG) mixed _ _ _ ?_
  simp [List.range, List.range.loop, ints, intss, int, bool, row, frac, fracs, ← List.map_take, ← List.map_drop, byts, f2, g1, g2, g3, g4, g5]
  done
end Go.Proofs.YtkfmhpgnhkdebaaGreatDoor.Ax
