/-
  The lotteries' law: what the check of a list of houses tells; the walk. No condition.
-/
import Derived.Test.YtkfmhpgnhkdebaaGreatDoorCG21
import Derived.Test.YtkfmhpgnhkdebaaGreatDoorCG22
import Derived.Test.YtkfmhpgnhkdebaaGreatDoorCG23
import Derived.Test.YtkfmhpgnhkdebaaGreatDoorCG11
import Derived.Test.YtkfmhpgnhkdebaaGreatDoorCG16
import Derived.Test.YtkfmhpgnhkdebaaGreatDoorCG24
namespace Go.Proofs.YtkfmhpgnhkdebaaGreatDoor.Ax
open Go Go.RowKit
set_option linter.unusedSimpArgs false
theorem frow_at {m : Tab} {i : Nat} (h : i < m.length) : m.getD i (true, []) = m[i] := by simp [List.getD_eq_getElem?_getD, h]
theorem frA_at {m : Tab} {i : Nat} (h : i < m.length) : frA m i = m[i].2 := by unfold frA; rw [frow_at h]
theorem rwA_at {xss : List (Bool × List Int)} {i : Nat} (h : i < xss.length) : rwA xss i = xss[i].2 := by unfold rwA; simp [List.getD_eq_getElem?_getD, h]
theorem allR_all {n : Nat} {f : Nat → Bool} (h : allR n f = true) : ∀ i, i < n → f i = true := fun i hi => by
  unfold allR at h
  exact List.all_eq_true.1 h i (List.mem_range.2 hi)
structure LotM (X : List (Bool × List Int)) (m : Tab) : Prop where
  lot : lotB m = true
  len : m.length = X.length
  spl : (splT m).2 = true
  mix : mixB (splT m).1 X.length = true
  mixe : mixT (splT m).1 X.length = m
  few : (splT m).1.length ≤ X.length * X.length
  wid : ∀ i (h : i < m.length), m[i].2.length = X.length
  eqr : ∀ i k (hi : i < X.length) (hk : k < X.length), X[i].2 = X[k].2 → (m[i]'(by omega)).2 = (m[k]'(by omega)).2
theorem lotM {X : List (Bool × List Int)} {m : Tab} (hn : 1 ≤ X.length ∧ X.length ≤ 3) (h : lotK X m = true) : LotM X m := by
  simp only [lotK, Bool.and_eq_true, decide_eq_true_eq, fLs_eq fTk_eq, lotS3] at h
  obtain ⟨⟨h1, h2⟩, ⟨⟨⟨⟨h3, h4⟩, h5⟩, h6⟩, h7⟩, h8⟩ := h
  have hr := allR_all h8
  have hmix : mixB (splT m).1 X.length = true := by
    simp only [mixB, Bool.and_eq_true]
    refine ⟨by simp [inR]; omega, h4, h5, ?_⟩
    rw [Int.toNat_natCast, h6]; exact h1
  refine ⟨h1, h2, h3, hmix, by unfold mixT; rw [if_pos hmix, Int.toNat_natCast]; exact h6, h7, fun i hi => ?_, fun i k hi hk e => ?_⟩
  · have := hr i (by omega)
    simp only [Bool.and_eq_true, decide_eq_true_eq] at this
    rw [frA_at hi] at this
    exact this.1
  · have := hr i hi
    simp only [Bool.and_eq_true, decide_eq_true_eq] at this
    have := allR_all this.2 k hk
    rw [rwA_at hi, rwA_at hk, frA_at (by omega), frA_at (by omega)] at this
    simpa [e] using this
structure LotF (X : List (Bool × List Int)) (A B : Tab) : Prop where
  ra : rserB X = true
  rb : eatB X = true
  ma : LotM X A
  mb : LotM X B
  fr : freeB X B = true
  be : ∀ i (h : i < X.length), betB X[i].2 (B[i]'(by have := mb.len; omega)).2 (B[(i + 1) % X.length]'(by have := mb.len; have := Nat.mod_lt (i + 1) (y := X.length) (by omega); omega)).2 = true
  sf : ∀ i (h : i < X.length), betB X[i].2 (A[i]'(by have := ma.len; omega)).2 (A[i]'(by have := ma.len; omega)).2 = true
theorem lotF {X : List (Bool × List Int)} (hn : 1 ≤ X.length ∧ X.length ≤ 3) (h : lotL X = true) : LotF X (rserT X) (eatT X) := by
  simp only [lotL, Bool.and_eq_true, fLs_eq fRow_eq] at h
  obtain ⟨⟨⟨h1, h2⟩, h3⟩, ⟨⟨h4, h5⟩, h6⟩, h7⟩ := h
  have ha : rserA X = true := by simp only [rserA, h1, Bool.true_and, decide_eq_true_eq]; omega
  have he : eatB X = true := by simp only [eatB, h1, Bool.true_and, decide_eq_true_eq]; omega
  have hl4 : lotB (mixA (rserK X) X.length) = true := by simp only [lotK, Bool.and_eq_true] at h4; exact h4.1.1
  have hmb : mixB (rserK X) X.length = true := by
    simp only [mixB, Bool.and_eq_true]
    refine ⟨by simp [inR]; omega, h2, h3, ?_⟩
    rw [Int.toNat_natCast]; exact hl4
  have hA : rserT X = mixA (rserK X) X.length := by
    unfold rserT mixT
    rw [if_pos ha, if_pos hmb, Int.toNat_natCast]
  rw [← hA] at h4 h7
  have ma := lotM hn h4
  have mb := lotM hn h5
  have hr := allR_all h6
  have hs := allR_all h7
  have hb : ∀ i k (hi : i < X.length) (hk : k < X.length), betB X[i].2 ((eatT X)[i]'(by have := mb.len; omega)).2 ((eatT X)[k]'(by have := mb.len; omega)).2 = true := fun i k hi hk => by
    have := allR_all (hr i hi) k hk
    have l := mb.len
    rwa [rwA_at hi, frA_at (by omega), frA_at (by omega)] at this
  refine ⟨by unfold rserB; rw [ha, hmb]; rfl, he, ma, mb, ?_, fun i hi => ?_, fun i hi => ?_⟩
  · simp only [freeB, Bool.and_eq_true, decide_eq_true_eq]
    refine ⟨⟨⟨h1, mb.lot⟩, mb.len.symm⟩, ?_⟩
    unfold allR
    rw [List.all_eq_true]
    intro i hi
    have hi' : i < X.length := List.mem_range.1 hi
    unfold freeRow allR
    rw [List.all_eq_true]
    intro k hk
    have hk' : k < (eatT X).length := List.mem_range.1 hk
    have := hb i k hi' (by have := mb.len; omega)
    unfold freeAt
    have l := mb.len
    rw [frow_at (by omega), frow_at (by omega)]
    have e : X.getD i (true, []) = X[i] := by simp [List.getD_eq_getElem?_getD, hi']
    rw [e]; exact this
  · exact hb i _ hi (Nat.mod_lt _ (by omega))
  · have := hs i hi
    have l := ma.len
    rwa [rwA_at hi, frA_at (m := rserT X) (by omega)] at this
set_option maxRecDepth 16000 in
set_option maxHeartbeats 8000000 in
theorem fnLotteries_call {nl : Bool} {by' : List Int} : CallOk Tryz.prog 5 [byts nl by'] (.v (.bool true)) := by
  have hG : FnsOk Tryz.prog [(29, mLot), (30, mLot), (31, mFree), (34, mFLot), (35, mSame), (36, mBet)] := (.cons specLot_ok (.cons implLot_ok (.cons implFree_ok (.cons implFormatLottery_ok (.cons same_ok (.cons implBet_ok .nil))))))
  have hM : FnsMut Tryz.prog [] := .nil
  have hV : FnsMov Tryz.prog [] := .nil
  have hK : FnsFrz Tryz.prog [(26, false, mMkHs), (27, false, mRser), (28, false, mEat), (32, false, mSpl), (33, false, mMix)] := (.cons (FnOk.frz makeHouses_ok) (.cons (FnOk.frz implRser_ok) (.cons (FnOk.frz implEatTogether_ok) (.cons (FnOk.frz implSpl_ok) (.cons (FnOk.frz implMix_ok) .nil)))))
  refine callOk_awp (ctxH_ok eqOk hG hM hV hK) mixed (live := [true, false, true, true, true, true, true, true, true, false, true, true, true, true, true, true, true, true, true, false, false, true, false, false, false, false, false, false, false, false, false, false, false, false, false, false, false, false, false, false, false, false, false, false, false, false, false, false, false, false, false, false, false, false, false, false, false, false, false, false, false, false, false, false, false, false, false, false, false, false, false, false, false, false, false, false, false, false, false, true, false, false, true, true, true, true, false, false, false, false, false, false, false, false, false, false, false, false, false, false, false, false, false, false, false, false, false, false, false, false, false, false, false, false, false, false, false, false, false, false, false, false, false, false, false, true, false, false, true, false, false, false, false, true, false, false, false, false, false, false, false, false, false, false, false, false, false, false, false, true, false, false, false, false, false, false, false, false, false, false, false, false, false, false, false, false, true, false, false, false, true, false, false, false, false, false, false, false, false, false, false, false, false, false, false, false, false, false, false, false, false, false, false, false, false, false, false, false, false, false, false, false, false, false, false, true]) (dt := [(23, ⟨[], [], []⟩), (25, ⟨[], [], []⟩), (31, ⟨[], [], []⟩)]) Tryz.func5 rfl (by kernel_rfl) (by kernel_rfl) fun w0 hlens => ?_
  by_cases hlen : by'.length ≤ 1048576
  rotate_left
  · have c1 : (1048576 : Int) < by'.length := by omega
    have c2 : 1048576 < by'.length := by omega
    simp [Tryz.f5, List.range, List.range.loop, ints, intss, int, bool, row, frac, fracs, ← List.map_take, ← List.map_drop, byts, c1, c2]
  have c1 : ¬ (1048576 : Int) < by'.length := by omega
  have c2 : ¬ 1048576 < by'.length := by omega
  have m0 := mMkHs_at nl by' hlen
  have hn := mkHs_len (by' := by')
  have hF := lotF hn (mkHs_ok by')
  generalize mkHs by' = X at *
  clear hlens
  have m1 := mRser_at false X
  have m2 := mEat_at false X
  rw [hF.ra] at m1
  rw [hF.rb] at m2
  have hfr := mFree_at false X false (eatT X)
  rw [hF.fr] at hfr
  generalize rserT X = A at *
  generalize eatT X = B at *
  have HA := hF.ma
  have HB := hF.mb
  have lA := mLot_at false A
  have lB := mLot_at false B
  rw [HA.lot] at lA
  rw [HB.lot] at lB
  have eA := HA.len
  have eB := HB.len
  simp at m1 m2
  simp (config := {maxSteps := 1000000}) [Tryz.f5, List.range, List.range.loop, ints, intss, int, bool, row, frac, fracs, ← List.map_take, ← List.map_drop, byts, c1, c2, m0, m1, m2, hfr, lA, lB, eA, eB]
  refine awp_range (live := [true, false, true, true, true, true, true, true, true, false, true, true, true, true, true, true, true, true, true, false, false, true, false, false, false, false, false, false, false, false, false, false, false, false, false, false, false, false, false, false, false, false, false, false, false, false, false, false, false, false, false, false, false, false, false, false, false, false, false, false, false, false, false, false, false, false, false, false, false, false, false, false, false, false, false, false, false, false, false, true, false, false, true, true, true, true, false, false, false, false, false, false, false, false, false, false, false, false, false, false, false, false, false, false, false, false, false, false, false, false, false, false, false, false, false, false, false, false, false, false, false, false, false, false, false, true, false, false, true, false, false, false, false, true, false, false, false, false, false, false, false, false, false, false, false, false, false, false, false, true, false, false, false, false, false, false, false, false, false, false, false, false, false, false, false, false, true, false, false, false, true, false, false, false, false, false, false, false, false, false, false, false, false, false, false, false, false, false, false, false, false, false, false, false, false, false, false, false, false, false, false, false, false, false, false, true]) (ctxH_ok eqOk hG hM hV hK) mixed [false, false, false, true, true, true, false, true, false, false, false, false, false, false, false, false, false, false, false, false, false, false, false, false, false, false, false, false, false, false, false, false, false, false, false, false, false, false, false, false, false, false, false, false, false, false, false, false, false, false, false, false, false, false, false, false, false, false, false, false, false, false, false, false, false, false, false, false, false, false, false, false, false, false, false, false, false, false, false, false, false, false, true, true, true] (2) (fun k => True) (fun k => ⟨[.junk, .junk, .junk, .sl false 1 (X.map row), int X.length, .sl false 1 (A.map frow), .junk, .sl false 1 (B.map frow), .junk, .junk, .junk, .junk, .junk, .junk, .junk, .junk, .junk, .junk, .junk, .junk, .junk, .junk, .junk, .junk, .junk, .junk, .junk, .junk, .junk, .junk, .junk, .junk, .junk, .junk, .junk, .junk, .junk, .junk, .junk, .junk, .junk, .junk, .junk, .junk, .junk, .junk, .junk, .junk, .junk, .junk, .junk, .junk, .junk, .junk, .junk, .junk, .junk, .junk, .junk, .junk, .junk, .junk, .junk, .junk, .junk, .junk, .junk, .junk, .junk, .junk, .junk, .junk, .junk, .junk, .junk, .junk, .junk, .junk, .junk, .junk, .junk, .junk, .ref 0 [] 0 2, int 2, int k, .junk, .junk, .junk, .junk, .junk, .junk, .junk, .junk, .junk, .junk, .junk, .junk, .junk, .junk, .junk, .junk, .junk, .junk, .junk, .junk, .junk, .junk, .junk, .junk, .junk, .junk, .junk, .junk, .junk, .junk, .junk, .junk, .junk, .junk, .junk, .junk, .junk, .junk, .junk, .junk, .junk, .junk, .junk, .junk, .junk, .junk, .junk, .junk, .junk, .junk, .junk, .junk, .junk, .junk, .junk, .junk, .junk, .junk, .junk, .junk, .junk, .junk, .junk, .junk, .junk, .junk, .junk, .junk, .junk, .junk, .junk, .junk, .junk, .junk, .junk, .junk, .junk, .junk, .junk, .junk, .junk, .junk, .junk, .junk, .junk, .junk, .junk, .junk, .junk, .junk, .junk, .junk, .junk, .junk, .junk, .junk, .junk, .junk, .junk, .junk, .junk, .junk, .junk, .junk, .junk, .junk, .junk, .junk, .junk, .junk, .junk, .junk, .junk, .junk, .junk, .junk, .junk, .junk, .junk, .junk, .junk], [⟨false, .sl false 1 [.sl false 1 (A.map frow), .sl false 1 (B.map frow)]⟩]⟩) ?_ (by simp [sub, slotsLe, clean, keep, refsL, refs, once, place, renL, ren, List.replicate, int, bool, frow, row]) ?_ ?_ ?_
  · omega
  · trivial
  · intro k hk _ hwk
    rcases (show k = 0 ∨ k = 1 by omega) with rfl | rfl
    · have sp := mSpl_at false A
      have hsp : splAV (splT A) = .tup [.sl false 3 ((splT A).1.map tick), .v (.bool true)] := by unfold splAV; rw [HA.spl]; rfl
      rw [hsp] at sp
      have mx := mMix_at false (splT A).1 X.length
      rw [HA.mix, HA.mixe] at mx
      simp at mx
      have fl := mFLot_at false A
      have few := HA.few
      have eM := HA.len
      have tM : List.take X.length A = A := List.take_of_length_le (by omega)
      generalize (splT A).1 = S at *
      have w1 : IntKind.i64.wrap ((X.length : Int) * X.length) = (X.length : Int) * X.length := wrapI (by have := Int.mul_nonneg (Int.natCast_nonneg X.length) (Int.natCast_nonneg X.length); omega) (by have : (X.length : Int) * X.length ≤ 3 * 3 := Int.mul_le_mul (by omega) (by omega) (by omega) (by omega); omega)
      have few2 : ¬ (X.length : Int) * X.length < (S.length : Int) := by
        have : ((X.length * X.length : Nat) : Int) = (X.length : Int) * X.length := by simp
        omega
      simp (config := {maxSteps := 1000000}) [List.range, List.range.loop, ints, intss, int, bool, row, frac, fracs, ← List.map_take, ← List.map_drop, hk, sp, mx, fl, eM, tM, w1, few2]
      refine awp_loop_of (live := [true, false, true, true, true, true, true, true, true, false, true, true, true, true, true, true, true, true, true, false, false, true, false, false, false, false, false, false, false, false, false, false, false, false, false, false, false, false, false, false, false, false, false, false, false, false, false, false, false, false, false, false, false, false, false, false, false, false, false, false, false, false, false, false, false, false, false, false, false, false, false, false, false, false, false, false, false, false, false, true, false, false, true, true, true, true, false, false, false, false, false, false, false, false, false, false, false, false, false, false, false, false, false, false, false, false, false, false, false, false, false, false, false, false, false, false, false, false, false, false, false, false, false, false, false, true, false, false, true, false, false, false, false, true, false, false, false, false, false, false, false, false, false, false, false, false, false, false, false, true, false, false, false, false, false, false, false, false, false, false, false, false, false, false, false, false, true, false, false, false, true, false, false, false, false, false, false, false, false, false, false, false, false, false, false, false, false, false, false, false, false, false, false, false, false, false, false, false, false, false, false, false, false, false, false, true]) (ctxH_ok eqOk hG hM hV hK) mixed [false, false, false, true, true, true, false, true, false, false, true, false, false, false, false, true, false, false, false, false, false, false, false, false, false, false, false, false, false, false, false, false, false, false, false, false, false, false, false, false, false, false, false, false, false, false, false, false, false, false, false, false, false, false, false, false, false, false, false, false, false, false, false, false, false, false, false, false, false, false, false, false, false, false, false, false, false, false, false, false, false, false, true, true, true] (α := {i : Nat // i ≤ X.length}) (fun i => ⟨[.junk, .junk, .junk, .sl false 1 (X.map row), int X.length, .sl false 1 (A.map frow), .junk, .sl false 1 (B.map frow), .junk, .junk, .ref 0 [(0, 0)] 0 X.length, .junk, .junk, .junk, .junk, int i.1, .junk, .junk, .junk, .junk, .junk, .junk, .junk, .junk, .junk, .junk, .junk, .junk, .junk, .junk, .junk, .junk, .junk, .junk, .junk, .junk, .junk, .junk, .junk, .junk, .junk, .junk, .junk, .junk, .junk, .junk, .junk, .junk, .junk, .junk, .junk, .junk, .junk, .junk, .junk, .junk, .junk, .junk, .junk, .junk, .junk, .junk, .junk, .junk, .junk, .junk, .junk, .junk, .junk, .junk, .junk, .junk, .junk, .junk, .junk, .junk, .junk, .junk, .junk, .junk, .junk, .junk, .ref 0 [] 0 2, int 2, int 0, .junk, .junk, .junk, .junk, .junk, .junk, .junk, .junk, .junk, .junk, .junk, .junk, .junk, .junk, .junk, .junk, .junk, .junk, .junk, .junk, .junk, .junk, .junk, .junk, .junk, .junk, .junk, .junk, .junk, .junk, .junk, .junk, .junk, .junk, .junk, .junk, .junk, .junk, .junk, .junk, .junk, .junk, .junk, .junk, .junk, .junk, .junk, .junk, .junk, .junk, .junk, .junk, .junk, .junk, .junk, .junk, .junk, .junk, .junk, .junk, .junk, .junk, .junk, .junk, .junk, .junk, .junk, .junk, .junk, .junk, .junk, .junk, .junk, .junk, .junk, .junk, .junk, .junk, .junk, .junk, .junk, .junk, .junk, .junk, .junk, .junk, .junk, .junk, .junk, .junk, .junk, .junk, .junk, .junk, .junk, .junk, .junk, .junk, .junk, .junk, .junk, .junk, .junk, .junk, .junk, .junk, .junk, .junk, .junk, .junk, .junk, .junk, .junk, .junk, .junk, .junk, .junk, .junk, .junk, .junk, .junk], [⟨false, .sl false 1 [.sl false 1 (A.map frow), .sl false 1 (B.map frow)]⟩]⟩) (fun i => X.length - i.1) ⟨0, by omega⟩ (by simp [sub, slotsLe, clean, keep, refsL, refs, once, place, renL, ren, List.replicate, int, bool, frow, row]) ?_
      rintro ⟨i, hi⟩
      simp only
      have hwi : IntKind.i64.wrap ((i : Int) + 1) = (i : Int) + 1 := wrapI (by omega) (by omega)
      by_cases hin : i < X.length
      rotate_left
      · obtain rfl : i = X.length := by omega
        simp (config := {maxSteps := 1000000}) [List.range, List.range.loop, ints, intss, int, bool, row, frac, fracs, ← List.map_take, ← List.map_drop, hwk]
        try decide
      have hini : (i : Int) < (X.length : Int) := by omega
      have hiM : i < A.length := by omega
      simp (config := {maxSteps := 1000000}) [List.range, List.range.loop, ints, intss, int, bool, row, frac, fracs, ← List.map_take, ← List.map_drop, hin, hini]
      refine awp_loop_of (live := [true, false, true, true, true, true, true, true, true, false, true, true, true, true, true, true, true, true, true, false, false, true, false, false, false, false, false, false, false, false, false, false, false, false, false, false, false, false, false, false, false, false, false, false, false, false, false, false, false, false, false, false, false, false, false, false, false, false, false, false, false, false, false, false, false, false, false, false, false, false, false, false, false, false, false, false, false, false, false, true, false, false, true, true, true, true, false, false, false, false, false, false, false, false, false, false, false, false, false, false, false, false, false, false, false, false, false, false, false, false, false, false, false, false, false, false, false, false, false, false, false, false, false, false, false, true, false, false, true, false, false, false, false, true, false, false, false, false, false, false, false, false, false, false, false, false, false, false, false, true, false, false, false, false, false, false, false, false, false, false, false, false, false, false, false, false, true, false, false, false, true, false, false, false, false, false, false, false, false, false, false, false, false, false, false, false, false, false, false, false, false, false, false, false, false, false, false, false, false, false, false, false, false, false, false, true]) (ctxH_ok eqOk hG hM hV hK) mixed [false, false, false, true, true, true, false, true, false, false, true, false, false, false, false, true, true, false, false, false, false, false, false, false, false, false, false, false, false, false, false, false, false, false, false, false, false, false, false, false, false, false, false, false, false, false, false, false, false, false, false, false, false, false, false, false, false, false, false, false, false, false, false, false, false, false, false, false, false, false, false, false, false, false, false, false, false, false, false, false, false, false, true, true, true] (α := {k : Nat // k ≤ X.length}) (fun k => ⟨[.junk, .junk, .junk, .sl false 1 (X.map row), int X.length, .sl false 1 (A.map frow), .junk, .sl false 1 (B.map frow), .junk, .junk, .ref 0 [(0, 0)] 0 X.length, .junk, .junk, .junk, .junk, int (i : Int), int k.1, .junk, .junk, .junk, .junk, .junk, .junk, .junk, .junk, .junk, .junk, .junk, .junk, .junk, .junk, .junk, .junk, .junk, .junk, .junk, .junk, .junk, .junk, .junk, .junk, .junk, .junk, .junk, .junk, .junk, .junk, .junk, .junk, .junk, .junk, .junk, .junk, .junk, .junk, .junk, .junk, .junk, .junk, .junk, .junk, .junk, .junk, .junk, .junk, .junk, .junk, .junk, .junk, .junk, .junk, .junk, .junk, .junk, .junk, .junk, .junk, .junk, .junk, .junk, .junk, .junk, .ref 0 [] 0 2, int 2, int 0, .junk, .junk, .junk, .junk, .junk, .junk, .junk, .junk, .junk, .junk, .junk, .junk, .junk, .junk, .junk, .junk, .junk, .junk, .junk, .junk, .junk, .junk, .junk, .junk, .junk, .junk, .junk, .junk, .junk, .junk, .junk, .junk, .junk, .junk, .junk, .junk, .junk, .junk, .junk, .junk, .junk, .junk, .junk, .junk, .junk, .junk, .junk, .junk, .junk, .junk, .junk, .junk, .junk, .junk, .junk, .junk, .junk, .junk, .junk, .junk, .junk, .junk, .junk, .junk, .junk, .junk, .junk, .junk, .junk, .junk, .junk, .junk, .junk, .junk, .junk, .junk, .junk, .junk, .junk, .junk, .junk, .junk, .junk, .junk, .junk, .junk, .junk, .junk, .junk, .junk, .junk, .junk, .junk, .junk, .junk, .junk, .junk, .junk, .junk, .junk, .junk, .junk, .junk, .junk, .junk, .junk, .junk, .junk, .junk, .junk, .junk, .junk, .junk, .junk, .junk, .junk, .junk, .junk, .junk, .junk, .junk], [⟨false, .sl false 1 [.sl false 1 (A.map frow), .sl false 1 (B.map frow)]⟩]⟩) (fun k => X.length - k.1) ⟨0, by omega⟩ (by simp [sub, slotsLe, clean, keep, refsL, refs, once, place, renL, ren, List.replicate, int, bool, frow, row]) ?_
      rintro ⟨k, hkk⟩
      simp only
      have hwkk : IntKind.i64.wrap ((k : Int) + 1) = (k : Int) + 1 := wrapI (by omega) (by omega)
      by_cases hkn : k < X.length
      rotate_left
      · obtain rfl : k = X.length := by omega
        simp (config := {maxSteps := 1000000}) [List.range, List.range.loop, ints, intss, int, bool, row, frac, fracs, ← List.map_take, ← List.map_drop, hwi]
        exact ⟨⟨i + 1, by omega⟩, by simp [sub, slotsLe, clean, keep, refsL, refs, once, place, renL, ren, List.replicate, int, bool], by simp; omega⟩
      have hkni : (k : Int) < (X.length : Int) := by omega
      have hkM : k < A.length := by omega
      have hs := mSame_at X[i].1 X[i].2 X[k].1 X[k].2
      have wi := HA.wid i hiM
      have wk := HA.wid k hkM
      have heq := HA.eqr i k hin hkn
      simp (config := {maxSteps := 1000000}) [List.range, List.range.loop, ints, intss, int, bool, row, frac, fracs, ← List.map_take, ← List.map_drop, hkn, hkni]
      refine awp_loop_of (live := [true, false, true, true, true, true, true, true, true, false, true, true, true, true, true, true, true, true, true, false, false, true, false, false, false, false, false, false, false, false, false, false, false, false, false, false, false, false, false, false, false, false, false, false, false, false, false, false, false, false, false, false, false, false, false, false, false, false, false, false, false, false, false, false, false, false, false, false, false, false, false, false, false, false, false, false, false, false, false, true, false, false, true, true, true, true, false, false, false, false, false, false, false, false, false, false, false, false, false, false, false, false, false, false, false, false, false, false, false, false, false, false, false, false, false, false, false, false, false, false, false, false, false, false, false, true, false, false, true, false, false, false, false, true, false, false, false, false, false, false, false, false, false, false, false, false, false, false, false, true, false, false, false, false, false, false, false, false, false, false, false, false, false, false, false, false, true, false, false, false, true, false, false, false, false, false, false, false, false, false, false, false, false, false, false, false, false, false, false, false, false, false, false, false, false, false, false, false, false, false, false, false, false, false, false, true]) (ctxH_ok eqOk hG hM hV hK) mixed [false, false, false, true, true, true, false, true, false, false, true, false, false, false, false, true, true, true, false, false, false, false, false, false, false, false, false, false, false, false, false, false, false, false, false, false, false, false, false, false, false, false, false, false, false, false, false, false, false, false, false, false, false, false, false, false, false, false, false, false, false, false, false, false, false, false, false, false, false, false, false, false, false, false, false, false, false, false, false, false, false, false, true, true, true] (α := {h : Nat // h ≤ X.length}) (fun h => ⟨[.junk, .junk, .junk, .sl false 1 (X.map row), int X.length, .sl false 1 (A.map frow), .junk, .sl false 1 (B.map frow), .junk, .junk, .ref 0 [(0, 0)] 0 X.length, .junk, .junk, .junk, .junk, int (i : Int), int (k : Int), int h.1, .junk, .junk, .junk, .junk, .junk, .junk, .junk, .junk, .junk, .junk, .junk, .junk, .junk, .junk, .junk, .junk, .junk, .junk, .junk, .junk, .junk, .junk, .junk, .junk, .junk, .junk, .junk, .junk, .junk, .junk, .junk, .junk, .junk, .junk, .junk, .junk, .junk, .junk, .junk, .junk, .junk, .junk, .junk, .junk, .junk, .junk, .junk, .junk, .junk, .junk, .junk, .junk, .junk, .junk, .junk, .junk, .junk, .junk, .junk, .junk, .junk, .junk, .junk, .junk, .ref 0 [] 0 2, int 2, int 0, .junk, .junk, .junk, .junk, .junk, .junk, .junk, .junk, .junk, .junk, .junk, .junk, .junk, .junk, .junk, .junk, .junk, .junk, .junk, .junk, .junk, .junk, .junk, .junk, .junk, .junk, .junk, .junk, .junk, .junk, .junk, .junk, .junk, .junk, .junk, .junk, .junk, .junk, .junk, .junk, .junk, .junk, .junk, .junk, .junk, .junk, .junk, .junk, .junk, .junk, .junk, .junk, .junk, .junk, .junk, .junk, .junk, .junk, .junk, .junk, .junk, .junk, .junk, .junk, .junk, .junk, .junk, .junk, .junk, .junk, .junk, .junk, .junk, .junk, .junk, .junk, .junk, .junk, .junk, .junk, .junk, .junk, .junk, .junk, .junk, .junk, .junk, .junk, .junk, .junk, .junk, .junk, .junk, .junk, .junk, .junk, .junk, .junk, .junk, .junk, .junk, .junk, .junk, .junk, .junk, .junk, .junk, .junk, .junk, .junk, .junk, .junk, .junk, .junk, .junk, .junk, .junk, .junk, .junk, .junk, .junk], [⟨false, .sl false 1 [.sl false 1 (A.map frow), .sl false 1 (B.map frow)]⟩]⟩) (fun h => X.length - h.1) ⟨0, by omega⟩ (by simp [sub, slotsLe, clean, keep, refsL, refs, once, place, renL, ren, List.replicate, int, bool, frow, row]) ?_
      rintro ⟨h, hh⟩
      simp only
      have hwh : IntKind.i64.wrap ((h : Int) + 1) = (h : Int) + 1 := wrapI (by omega) (by omega)
      by_cases hhn : h < X.length
      rotate_left
      · obtain rfl : h = X.length := by omega
        simp (config := {maxSteps := 1000000}) [List.range, List.range.loop, ints, intss, int, bool, row, frac, fracs, ← List.map_take, ← List.map_drop, row, hwkk]
        exact ⟨⟨k + 1, by omega⟩, by simp [sub, slotsLe, clean, keep, refsL, refs, once, place, renL, ren, List.replicate, int, bool], by simp; omega⟩
      have hhni : (h : Int) < (X.length : Int) := by omega
      by_cases he : X[i].2 = X[k].2
      · have heq := heq he
        rw [decide_eq_true he] at hs
        simp (config := {maxSteps := 1000000}) [List.range, List.range.loop, ints, intss, int, bool, row, frac, fracs, ← List.map_take, ← List.map_drop, row, frow, hhn, hhni, hin, hkn, hini, hkni, hs, eM, hiM, hkM, wi, wk, heq, hwh]
        exact ⟨⟨h + 1, by omega⟩, by simp [sub, slotsLe, clean, keep, refsL, refs, once, place, renL, ren, List.replicate, int, bool], by simp; omega⟩
      · rw [decide_eq_false he] at hs
        simp (config := {maxSteps := 1000000}) [List.range, List.range.loop, ints, intss, int, bool, row, frac, fracs, ← List.map_take, ← List.map_drop, row, frow, hhn, hhni, hin, hkn, hini, hkni, hs, eM, hwkk]
        exact ⟨⟨k + 1, by omega⟩, by simp [sub, slotsLe, clean, keep, refsL, refs, once, place, renL, ren, List.replicate, int, bool], by simp; omega⟩
    · have sp := mSpl_at false B
      have hsp : splAV (splT B) = .tup [.sl false 3 ((splT B).1.map tick), .v (.bool true)] := by unfold splAV; rw [HB.spl]; rfl
      rw [hsp] at sp
      have mx := mMix_at false (splT B).1 X.length
      rw [HB.mix, HB.mixe] at mx
      simp at mx
      have fl := mFLot_at false B
      have few := HB.few
      have eM := HB.len
      have tM : List.take X.length B = B := List.take_of_length_le (by omega)
      generalize (splT B).1 = S at *
      have w1 : IntKind.i64.wrap ((X.length : Int) * X.length) = (X.length : Int) * X.length := wrapI (by have := Int.mul_nonneg (Int.natCast_nonneg X.length) (Int.natCast_nonneg X.length); omega) (by have : (X.length : Int) * X.length ≤ 3 * 3 := Int.mul_le_mul (by omega) (by omega) (by omega) (by omega); omega)
      have few2 : ¬ (X.length : Int) * X.length < (S.length : Int) := by
        have : ((X.length * X.length : Nat) : Int) = (X.length : Int) * X.length := by simp
        omega
      simp (config := {maxSteps := 1000000}) [List.range, List.range.loop, ints, intss, int, bool, row, frac, fracs, ← List.map_take, ← List.map_drop, hk, sp, mx, fl, eM, tM, w1, few2]
      refine awp_loop_of (live := [true, false, true, true, true, true, true, true, true, false, true, true, true, true, true, true, true, true, true, false, false, true, false, false, false, false, false, false, false, false, false, false, false, false, false, false, false, false, false, false, false, false, false, false, false, false, false, false, false, false, false, false, false, false, false, false, false, false, false, false, false, false, false, false, false, false, false, false, false, false, false, false, false, false, false, false, false, false, false, true, false, false, true, true, true, true, false, false, false, false, false, false, false, false, false, false, false, false, false, false, false, false, false, false, false, false, false, false, false, false, false, false, false, false, false, false, false, false, false, false, false, false, false, false, false, true, false, false, true, false, false, false, false, true, false, false, false, false, false, false, false, false, false, false, false, false, false, false, false, true, false, false, false, false, false, false, false, false, false, false, false, false, false, false, false, false, true, false, false, false, true, false, false, false, false, false, false, false, false, false, false, false, false, false, false, false, false, false, false, false, false, false, false, false, false, false, false, false, false, false, false, false, false, false, false, true]) (ctxH_ok eqOk hG hM hV hK) mixed [false, false, false, true, true, true, false, true, false, false, true, false, false, false, false, true, false, false, false, false, false, false, false, false, false, false, false, false, false, false, false, false, false, false, false, false, false, false, false, false, false, false, false, false, false, false, false, false, false, false, false, false, false, false, false, false, false, false, false, false, false, false, false, false, false, false, false, false, false, false, false, false, false, false, false, false, false, false, false, false, false, false, true, true, true] (α := {i : Nat // i ≤ X.length}) (fun i => ⟨[.junk, .junk, .junk, .sl false 1 (X.map row), int X.length, .sl false 1 (A.map frow), .junk, .sl false 1 (B.map frow), .junk, .junk, .ref 0 [(1, 0)] 0 X.length, .junk, .junk, .junk, .junk, int i.1, .junk, .junk, .junk, .junk, .junk, .junk, .junk, .junk, .junk, .junk, .junk, .junk, .junk, .junk, .junk, .junk, .junk, .junk, .junk, .junk, .junk, .junk, .junk, .junk, .junk, .junk, .junk, .junk, .junk, .junk, .junk, .junk, .junk, .junk, .junk, .junk, .junk, .junk, .junk, .junk, .junk, .junk, .junk, .junk, .junk, .junk, .junk, .junk, .junk, .junk, .junk, .junk, .junk, .junk, .junk, .junk, .junk, .junk, .junk, .junk, .junk, .junk, .junk, .junk, .junk, .junk, .ref 0 [] 0 2, int 2, int 1, .junk, .junk, .junk, .junk, .junk, .junk, .junk, .junk, .junk, .junk, .junk, .junk, .junk, .junk, .junk, .junk, .junk, .junk, .junk, .junk, .junk, .junk, .junk, .junk, .junk, .junk, .junk, .junk, .junk, .junk, .junk, .junk, .junk, .junk, .junk, .junk, .junk, .junk, .junk, .junk, .junk, .junk, .junk, .junk, .junk, .junk, .junk, .junk, .junk, .junk, .junk, .junk, .junk, .junk, .junk, .junk, .junk, .junk, .junk, .junk, .junk, .junk, .junk, .junk, .junk, .junk, .junk, .junk, .junk, .junk, .junk, .junk, .junk, .junk, .junk, .junk, .junk, .junk, .junk, .junk, .junk, .junk, .junk, .junk, .junk, .junk, .junk, .junk, .junk, .junk, .junk, .junk, .junk, .junk, .junk, .junk, .junk, .junk, .junk, .junk, .junk, .junk, .junk, .junk, .junk, .junk, .junk, .junk, .junk, .junk, .junk, .junk, .junk, .junk, .junk, .junk, .junk, .junk, .junk, .junk, .junk], [⟨false, .sl false 1 [.sl false 1 (A.map frow), .sl false 1 (B.map frow)]⟩]⟩) (fun i => X.length - i.1) ⟨0, by omega⟩ (by simp [sub, slotsLe, clean, keep, refsL, refs, once, place, renL, ren, List.replicate, int, bool, frow, row]) ?_
      rintro ⟨i, hi⟩
      simp only
      have hwi : IntKind.i64.wrap ((i : Int) + 1) = (i : Int) + 1 := wrapI (by omega) (by omega)
      by_cases hin : i < X.length
      rotate_left
      · obtain rfl : i = X.length := by omega
        simp (config := {maxSteps := 1000000}) [List.range, List.range.loop, ints, intss, int, bool, row, frac, fracs, ← List.map_take, ← List.map_drop, hwk]
        try decide
      have hini : (i : Int) < (X.length : Int) := by omega
      have hiM : i < B.length := by omega
      simp (config := {maxSteps := 1000000}) [List.range, List.range.loop, ints, intss, int, bool, row, frac, fracs, ← List.map_take, ← List.map_drop, hin, hini]
      refine awp_loop_of (live := [true, false, true, true, true, true, true, true, true, false, true, true, true, true, true, true, true, true, true, false, false, true, false, false, false, false, false, false, false, false, false, false, false, false, false, false, false, false, false, false, false, false, false, false, false, false, false, false, false, false, false, false, false, false, false, false, false, false, false, false, false, false, false, false, false, false, false, false, false, false, false, false, false, false, false, false, false, false, false, true, false, false, true, true, true, true, false, false, false, false, false, false, false, false, false, false, false, false, false, false, false, false, false, false, false, false, false, false, false, false, false, false, false, false, false, false, false, false, false, false, false, false, false, false, false, true, false, false, true, false, false, false, false, true, false, false, false, false, false, false, false, false, false, false, false, false, false, false, false, true, false, false, false, false, false, false, false, false, false, false, false, false, false, false, false, false, true, false, false, false, true, false, false, false, false, false, false, false, false, false, false, false, false, false, false, false, false, false, false, false, false, false, false, false, false, false, false, false, false, false, false, false, false, false, false, true]) (ctxH_ok eqOk hG hM hV hK) mixed [false, false, false, true, true, true, false, true, false, false, true, false, false, false, false, true, true, false, false, false, false, false, false, false, false, false, false, false, false, false, false, false, false, false, false, false, false, false, false, false, false, false, false, false, false, false, false, false, false, false, false, false, false, false, false, false, false, false, false, false, false, false, false, false, false, false, false, false, false, false, false, false, false, false, false, false, false, false, false, false, false, false, true, true, true] (α := {k : Nat // k ≤ X.length}) (fun k => ⟨[.junk, .junk, .junk, .sl false 1 (X.map row), int X.length, .sl false 1 (A.map frow), .junk, .sl false 1 (B.map frow), .junk, .junk, .ref 0 [(1, 0)] 0 X.length, .junk, .junk, .junk, .junk, int (i : Int), int k.1, .junk, .junk, .junk, .junk, .junk, .junk, .junk, .junk, .junk, .junk, .junk, .junk, .junk, .junk, .junk, .junk, .junk, .junk, .junk, .junk, .junk, .junk, .junk, .junk, .junk, .junk, .junk, .junk, .junk, .junk, .junk, .junk, .junk, .junk, .junk, .junk, .junk, .junk, .junk, .junk, .junk, .junk, .junk, .junk, .junk, .junk, .junk, .junk, .junk, .junk, .junk, .junk, .junk, .junk, .junk, .junk, .junk, .junk, .junk, .junk, .junk, .junk, .junk, .junk, .junk, .ref 0 [] 0 2, int 2, int 1, .junk, .junk, .junk, .junk, .junk, .junk, .junk, .junk, .junk, .junk, .junk, .junk, .junk, .junk, .junk, .junk, .junk, .junk, .junk, .junk, .junk, .junk, .junk, .junk, .junk, .junk, .junk, .junk, .junk, .junk, .junk, .junk, .junk, .junk, .junk, .junk, .junk, .junk, .junk, .junk, .junk, .junk, .junk, .junk, .junk, .junk, .junk, .junk, .junk, .junk, .junk, .junk, .junk, .junk, .junk, .junk, .junk, .junk, .junk, .junk, .junk, .junk, .junk, .junk, .junk, .junk, .junk, .junk, .junk, .junk, .junk, .junk, .junk, .junk, .junk, .junk, .junk, .junk, .junk, .junk, .junk, .junk, .junk, .junk, .junk, .junk, .junk, .junk, .junk, .junk, .junk, .junk, .junk, .junk, .junk, .junk, .junk, .junk, .junk, .junk, .junk, .junk, .junk, .junk, .junk, .junk, .junk, .junk, .junk, .junk, .junk, .junk, .junk, .junk, .junk, .junk, .junk, .junk, .junk, .junk, .junk], [⟨false, .sl false 1 [.sl false 1 (A.map frow), .sl false 1 (B.map frow)]⟩]⟩) (fun k => X.length - k.1) ⟨0, by omega⟩ (by simp [sub, slotsLe, clean, keep, refsL, refs, once, place, renL, ren, List.replicate, int, bool, frow, row]) ?_
      rintro ⟨k, hkk⟩
      simp only
      have hwkk : IntKind.i64.wrap ((k : Int) + 1) = (k : Int) + 1 := wrapI (by omega) (by omega)
      by_cases hkn : k < X.length
      rotate_left
      · obtain rfl : k = X.length := by omega
        simp (config := {maxSteps := 1000000}) [List.range, List.range.loop, ints, intss, int, bool, row, frac, fracs, ← List.map_take, ← List.map_drop, hwi]
        exact ⟨⟨i + 1, by omega⟩, by simp [sub, slotsLe, clean, keep, refsL, refs, once, place, renL, ren, List.replicate, int, bool], by simp; omega⟩
      have hkni : (k : Int) < (X.length : Int) := by omega
      have hkM : k < B.length := by omega
      have hs := mSame_at X[i].1 X[i].2 X[k].1 X[k].2
      have wi := HB.wid i hiM
      have wk := HB.wid k hkM
      have heq := HB.eqr i k hin hkn
      simp (config := {maxSteps := 1000000}) [List.range, List.range.loop, ints, intss, int, bool, row, frac, fracs, ← List.map_take, ← List.map_drop, hkn, hkni]
      refine awp_loop_of (live := [true, false, true, true, true, true, true, true, true, false, true, true, true, true, true, true, true, true, true, false, false, true, false, false, false, false, false, false, false, false, false, false, false, false, false, false, false, false, false, false, false, false, false, false, false, false, false, false, false, false, false, false, false, false, false, false, false, false, false, false, false, false, false, false, false, false, false, false, false, false, false, false, false, false, false, false, false, false, false, true, false, false, true, true, true, true, false, false, false, false, false, false, false, false, false, false, false, false, false, false, false, false, false, false, false, false, false, false, false, false, false, false, false, false, false, false, false, false, false, false, false, false, false, false, false, true, false, false, true, false, false, false, false, true, false, false, false, false, false, false, false, false, false, false, false, false, false, false, false, true, false, false, false, false, false, false, false, false, false, false, false, false, false, false, false, false, true, false, false, false, true, false, false, false, false, false, false, false, false, false, false, false, false, false, false, false, false, false, false, false, false, false, false, false, false, false, false, false, false, false, false, false, false, false, false, true]) (ctxH_ok eqOk hG hM hV hK) mixed [false, false, false, true, true, true, false, true, false, false, true, false, false, false, false, true, true, true, false, false, false, false, false, false, false, false, false, false, false, false, false, false, false, false, false, false, false, false, false, false, false, false, false, false, false, false, false, false, false, false, false, false, false, false, false, false, false, false, false, false, false, false, false, false, false, false, false, false, false, false, false, false, false, false, false, false, false, false, false, false, false, false, true, true, true] (α := {h : Nat // h ≤ X.length}) (fun h => ⟨[.junk, .junk, .junk, .sl false 1 (X.map row), int X.length, .sl false 1 (A.map frow), .junk, .sl false 1 (B.map frow), .junk, .junk, .ref 0 [(1, 0)] 0 X.length, .junk, .junk, .junk, .junk, int (i : Int), int (k : Int), int h.1, .junk, .junk, .junk, .junk, .junk, .junk, .junk, .junk, .junk, .junk, .junk, .junk, .junk, .junk, .junk, .junk, .junk, .junk, .junk, .junk, .junk, .junk, .junk, .junk, .junk, .junk, .junk, .junk, .junk, .junk, .junk, .junk, .junk, .junk, .junk, .junk, .junk, .junk, .junk, .junk, .junk, .junk, .junk, .junk, .junk, .junk, .junk, .junk, .junk, .junk, .junk, .junk, .junk, .junk, .junk, .junk, .junk, .junk, .junk, .junk, .junk, .junk, .junk, .junk, .ref 0 [] 0 2, int 2, int 1, .junk, .junk, .junk, .junk, .junk, .junk, .junk, .junk, .junk, .junk, .junk, .junk, .junk, .junk, .junk, .junk, .junk, .junk, .junk, .junk, .junk, .junk, .junk, .junk, .junk, .junk, .junk, .junk, .junk, .junk, .junk, .junk, .junk, .junk, .junk, .junk, .junk, .junk, .junk, .junk, .junk, .junk, .junk, .junk, .junk, .junk, .junk, .junk, .junk, .junk, .junk, .junk, .junk, .junk, .junk, .junk, .junk, .junk, .junk, .junk, .junk, .junk, .junk, .junk, .junk, .junk, .junk, .junk, .junk, .junk, .junk, .junk, .junk, .junk, .junk, .junk, .junk, .junk, .junk, .junk, .junk, .junk, .junk, .junk, .junk, .junk, .junk, .junk, .junk, .junk, .junk, .junk, .junk, .junk, .junk, .junk, .junk, .junk, .junk, .junk, .junk, .junk, .junk, .junk, .junk, .junk, .junk, .junk, .junk, .junk, .junk, .junk, .junk, .junk, .junk, .junk, .junk, .junk, .junk, .junk, .junk], [⟨false, .sl false 1 [.sl false 1 (A.map frow), .sl false 1 (B.map frow)]⟩]⟩) (fun h => X.length - h.1) ⟨0, by omega⟩ (by simp [sub, slotsLe, clean, keep, refsL, refs, once, place, renL, ren, List.replicate, int, bool, frow, row]) ?_
      rintro ⟨h, hh⟩
      simp only
      have hwh : IntKind.i64.wrap ((h : Int) + 1) = (h : Int) + 1 := wrapI (by omega) (by omega)
      by_cases hhn : h < X.length
      rotate_left
      · obtain rfl : h = X.length := by omega
        simp (config := {maxSteps := 1000000}) [List.range, List.range.loop, ints, intss, int, bool, row, frac, fracs, ← List.map_take, ← List.map_drop, row, hwkk]
        exact ⟨⟨k + 1, by omega⟩, by simp [sub, slotsLe, clean, keep, refsL, refs, once, place, renL, ren, List.replicate, int, bool], by simp; omega⟩
      have hhni : (h : Int) < (X.length : Int) := by omega
      by_cases he : X[i].2 = X[k].2
      · have heq := heq he
        rw [decide_eq_true he] at hs
        simp (config := {maxSteps := 1000000}) [List.range, List.range.loop, ints, intss, int, bool, row, frac, fracs, ← List.map_take, ← List.map_drop, row, frow, hhn, hhni, hin, hkn, hini, hkni, hs, eM, hiM, hkM, wi, wk, heq, hwh]
        exact ⟨⟨h + 1, by omega⟩, by simp [sub, slotsLe, clean, keep, refsL, refs, once, place, renL, ren, List.replicate, int, bool], by simp; omega⟩
      · rw [decide_eq_false he] at hs
        simp (config := {maxSteps := 1000000}) [List.range, List.range.loop, ints, intss, int, bool, row, frac, fracs, ← List.map_take, ← List.map_drop, row, frow, hhn, hhni, hin, hkn, hini, hkni, hs, eM, hwkk]
        exact ⟨⟨k + 1, by omega⟩, by simp [sub, slotsLe, clean, keep, refsL, refs, once, place, renL, ren, List.replicate, int, bool], by simp; omega⟩
  · intro _
    simp [List.range, List.range.loop, ints, intss, int, bool, row, frac, fracs, ← List.map_take, ← List.map_drop]
    refine awp_loop_of (live := [true, false, true, true, true, true, true, true, true, false, true, true, true, true, true, true, true, true, true, false, false, true, false, false, false, false, false, false, false, false, false, false, false, false, false, false, false, false, false, false, false, false, false, false, false, false, false, false, false, false, false, false, false, false, false, false, false, false, false, false, false, false, false, false, false, false, false, false, false, false, false, false, false, false, false, false, false, false, false, true, false, false, true, true, true, true, false, false, false, false, false, false, false, false, false, false, false, false, false, false, false, false, false, false, false, false, false, false, false, false, false, false, false, false, false, false, false, false, false, false, false, false, false, false, false, true, false, false, true, false, false, false, false, true, false, false, false, false, false, false, false, false, false, false, false, false, false, false, false, true, false, false, false, false, false, false, false, false, false, false, false, false, false, false, false, false, true, false, false, false, true, false, false, false, false, false, false, false, false, false, false, false, false, false, false, false, false, false, false, false, false, false, false, false, false, false, false, false, false, false, false, false, false, false, false, true]) (ctxH_ok eqOk hG hM hV hK) mixed [false, false, false, true, true, true, false, true, false, false, false, false, false, false, false, false, false, false, true] (α := {i : Nat // i ≤ X.length}) (fun i => ⟨[.junk, .junk, .junk, .sl false 1 (X.map row), int X.length, .sl false 1 (A.map frow), .junk, .sl false 1 (B.map frow), .junk, .junk, .junk, .junk, .junk, .junk, .junk, .junk, .junk, .junk, int i.1, .junk, .junk, .junk, .junk, .junk, .junk, .junk, .junk, .junk, .junk, .junk, .junk, .junk, .junk, .junk, .junk, .junk, .junk, .junk, .junk, .junk, .junk, .junk, .junk, .junk, .junk, .junk, .junk, .junk, .junk, .junk, .junk, .junk, .junk, .junk, .junk, .junk, .junk, .junk, .junk, .junk, .junk, .junk, .junk, .junk, .junk, .junk, .junk, .junk, .junk, .junk, .junk, .junk, .junk, .junk, .junk, .junk, .junk, .junk, .junk, .junk, .junk, .junk, .junk, .junk, .junk, .junk, .junk, .junk, .junk, .junk, .junk, .junk, .junk, .junk, .junk, .junk, .junk, .junk, .junk, .junk, .junk, .junk, .junk, .junk, .junk, .junk, .junk, .junk, .junk, .junk, .junk, .junk, .junk, .junk, .junk, .junk, .junk, .junk, .junk, .junk, .junk, .junk, .junk, .junk, .junk, .junk, .junk, .junk, .junk, .junk, .junk, .junk, .junk, .junk, .junk, .junk, .junk, .junk, .junk, .junk, .junk, .junk, .junk, .junk, .junk, .junk, .junk, .junk, .junk, .junk, .junk, .junk, .junk, .junk, .junk, .junk, .junk, .junk, .junk, .junk, .junk, .junk, .junk, .junk, .junk, .junk, .junk, .junk, .junk, .junk, .junk, .junk, .junk, .junk, .junk, .junk, .junk, .junk, .junk, .junk, .junk, .junk, .junk, .junk, .junk, .junk, .junk, .junk, .junk, .junk, .junk, .junk, .junk, .junk, .junk, .junk, .junk, .junk, .junk, .junk, .junk, .junk, .junk, .junk, .junk, .junk], []⟩) (fun i => X.length - i.1) ⟨0, by omega⟩ (by simp [sub, slotsLe, clean, keep, refsL, refs, once, place, renL, ren, List.replicate, int, bool, frow, row]) ?_
    rintro ⟨i, hi⟩
    simp only
    have hwi : IntKind.i64.wrap ((i : Int) + 1) = (i : Int) + 1 := wrapI (by omega) (by omega)
    by_cases hin : i < X.length
    rotate_left
    · obtain rfl : i = X.length := by omega
      simp (config := {maxSteps := 1000000}) [List.range, List.range.loop, ints, intss, int, bool, row, frac, fracs, ← List.map_take, ← List.map_drop]
      done
    have hini : (i : Int) < (X.length : Int) := by omega
    have hm := Nat.mod_lt (i + 1) (y := X.length) (by omega)
    obtain ⟨j, hj⟩ : ∃ j : Nat, j = (i + 1) % X.length := ⟨_, rfl⟩
    have hrem : ((i : Int) + 1).tmod (X.length : Int) = (j : Int) := by
      rw [Int.tmod_eq_emod_of_nonneg (by omega), hj]; simp
    have wrem : IntKind.i64.wrap (j : Int) = (j : Int) := wrapI (by omega) (by omega)
    have hz : ¬ (X.length : Int) = 0 := by omega
    have hzn : ¬ X.length = 0 := by omega
    have hbe := hF.be i hin
    have hsf := hF.sf i hin
    simp only [← hj] at hbe
    have hjn : j < X.length := by omega
    have hjB : j < B.length := by omega
    have hiB : i < B.length := by omega
    have hiA : i < A.length := by omega
    have b1 := mBet_at X[i].1 X[i].2 B[i].1 B[i].2 B[j].1 B[j].2
    have b2 := mBet_at X[i].1 X[i].2 A[i].1 A[i].2 A[i].1 A[i].2
    rw [hbe] at b1
    rw [hsf] at b2
    simp (config := {maxSteps := 1000000}) [List.range, List.range.loop, ints, intss, int, bool, row, frac, fracs, ← List.map_take, ← List.map_drop, row, frow, hin, hini, hwi, hrem, wrem, hz, hzn, hjn, hjB, hiB, hiA, eA, eB, b1, b2]
    exact ⟨⟨i + 1, by omega⟩, by simp [sub, slotsLe, clean, keep, refsL, refs, once, place, renL, ren, List.replicate, int, bool], by simp; omega⟩
end Go.Proofs.YtkfmhpgnhkdebaaGreatDoor.Ax
