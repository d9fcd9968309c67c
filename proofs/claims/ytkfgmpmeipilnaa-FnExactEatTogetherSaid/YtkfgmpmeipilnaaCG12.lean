/-
  Contracts: EatTogether (the reference). No condition.
-/
import Derived.Test.YtkfgmpmeipilnaaCG11
namespace Go.Proofs.Ytkfgmpmeipilnaa.Ax
open Go Go.RowKit
set_option linter.unusedSimpArgs false
set_option linter.unusedVariables false

/-- Which houses are left. -/
def bsL (s : Es) (k : Nat) : List Bool := (List.range k).map fun x => decide (0 < at0 s.lf x)
theorem bsL_len {s : Es} {k : Nat} : (bsL s k).length = k := by simp [bsL]
theorem bsL_succ {s : Es} {k : Nat} : (bsL s k).map bool ++ [.v (.bool (decide (0 < at0 s.lf k)))] = (bsL s (k + 1)).map bool := by simp [bsL, List.range_succ, bool]
theorem bsL_get {s : Es} {k x : Nat} (h : x < k) : (bsL s k).getD x false = decide (0 < at0 s.lf x) := by
  simp [bsL, List.getD_eq_getElem?_getD, h]
/-- What each of the first k eats. -/
def atL (xss : List (Bool × List Int)) (s : Es) (k : Nat) : List Int := (List.range k).map fun i => (hxi xss s i : Int)
theorem atL_len {xss : List (Bool × List Int)} {s : Es} {k : Nat} : (atL xss s k).length = k := by simp [atL]
theorem atL_get {xss : List (Bool × List Int)} {s : Es} {k i : Nat} (h : i < (atL xss s k).length) : (atL xss s k)[i] = hxi xss s i := by simp [atL]
theorem atL_succ {xss : List (Bool × List Int)} {s : Es} {k : Nat} : (atL xss s k).map int ++ [.v (.int .i64 (hxi xss s k))] = (atL xss s (k + 1)).map int := by simp [atL, List.range_succ, int]

theorem fstB_yes {xss : List (Bool × List Int)} {s : Es} (h : Hs xss) (hR : Rd xss s) {i : Nat} (hi : i < xss.length) : ∃ x : Nat, mFstB [.sl xss[i].1 1 (xss[i].2.map int), .sl false 1 ((bsL s xss.length).map bool)] = some (.v (.int .i64 (x : Int))) ∧ hxi xss s i = x ∧ x < xss.length := by
  obtain ⟨x, e, e1, e2, e3⟩ := hR.hx i hi
  have hb := (h.all i hi).1
  refine ⟨x, ?_, e1, e2⟩
  rw [mFstB_at _ _ _ (fun y hy => by have := hb y hy; rw [bsL_len]; omega)]
  have : fstB (bsL s xss.length) xss[i].2 = x := by
    unfold fstB
    rw [fstI_congr (q := fun h => decide (0 < at0 s.lf h.toNat)) (fun y hy => by have := hb y hy; exact bsL_get (by omega)), e]; rfl
  rw [this]
theorem fstB_no {xss : List (Bool × List Int)} {s : Es} (h : Hs xss) (hl : s.lf.length = xss.length) (ho : opn s = []) {i : Nat} (hi : i < xss.length) : mFstB [.sl xss[i].1 1 (xss[i].2.map int), .sl false 1 ((bsL s xss.length).map bool)] = some (.v (.int .i64 (-1))) := by
  have hb := (h.all i hi).1
  rw [mFstB_at _ _ _ (fun y hy => by have := hb y hy; rw [bsL_len]; omega)]
  have : fstB (bsL s xss.length) xss[i].2 = -1 := by
    unfold fstB
    rw [fstI_congr (q := fun h => decide (0 < at0 s.lf h.toNat)) (fun y hy => by have := hb y hy; exact bsL_get (by omega))]
    have hn : fstI (fun h => decide (0 < at0 s.lf h.toNat)) xss[i].2 = none := by
      unfold fstI
      rw [List.find?_eq_none]
      intro y hy hp
      have := hb y hy
      have : y ∈ opn s := opn_mem.2 ⟨y.toNat, by omega, by omega, by simpa using hp⟩
      rw [ho] at this; simp at this
    rw [hn]; rfl
  rw [this]

theorem lesQ {a b D : Int} (hD : 0 < D) (hD1 : D ≤ 100000) (ha : 0 ≤ a ∧ a ≤ 1000000) (hb : 0 ≤ b ∧ b ≤ 1000000) : mLesF [.agg [.v (.int .i64 (qd a D).1), .v (.int .i64 (qd a D).2)], .agg [.v (.int .i64 (qd b D).1), .v (.int .i64 (qd b D).2)]] = some (.agg [.v (.int .i64 (qd (if b < a then b else a) D).1), .v (.int .i64 (qd (if b < a then b else a) D).2)]) := by
  have := mLesF_at (qd a D).1 (qd a D).2 (qd b D).1 (qd b D).2
  have e : lesF ((qd a D).1, (qd a D).2) ((qd b D).1, (qd b D).2) = qd (if b < a then b else a) D := by
    unfold lesF
    rw [show cmpF ((qd b D).1, (qd b D).2) ((qd a D).1, (qd a D).2) = cmpI b a from cmpF_qd hD (by omega) (by omega) (by omega)]
    unfold cmpI
    by_cases h : b < a
    · simp [h]
    · by_cases h2 : a < b <;> simp [h, h2]
  rw [e] at this
  exact this

set_option maxRecDepth 16000 in
set_option maxHeartbeats 4000000 in
theorem specEat_no (nl : Bool) (xss : List (Bool × List Int)) (h : eatB xss = false) : CallOk Try.prog 11 [intss nl xss] (.tup [.sl true 1 [], .v (.bool false)]) := by
  have hG : FnsOk Try.prog [(43, mHouses), (44, mZeroT), (45, mFstB), (46, mDivK), (47, mLesF), (48, mAdd), (49, mMinus)] := (.cons specHouses_ok (.cons l29Empty_ok (.cons l22First_ok (.cons specDivK_ok (.cons l29Less_ok (.cons specAdd_ok (.cons l29Minus_ok .nil)))))))
  refine callOk_awp (ctx_ok eqOk hG) mixed (live := [true, false, true, true, true, true, true, true, false, true, true, true, false, true, true, true, true, true, true, false, true, true, true, false, true, false, false, false, false, false, false, false, false, false, true, false, false, false, false, true, true, true, false, false, false, false, false, false, true, true, true, true, false, false, false, false, false, false, false, false, false, false, false, false, true, true, true, true, false, false, false, false, false, false, true, false, false, false, false, false, false, false, false, false, false, false, false, false, true, true, true, true, false, false, false, false, true, false, false, false, false, false, false, false, false, false, false, false, false, false, false, true, true, true, true]) (dt := [(38, ⟨[(11, 13)], [0, 0, 0, 0, 0, 0, 0, 0, 0, 0, 0, 0, 1], []⟩), (39, ⟨[], [], []⟩), (40, ⟨[(8, 10)], [0, 0, 0, 0, 0, 0, 0, 0, 0, 1], []⟩)]) Try.func11 rfl (by kernel_rfl) (by kernel_rfl) fun w0 hlens => ?_
  clear hlens
  cases h1 : housesB xss with
  | false => simp (config := {contextual := true}) [Try.f11, List.range, List.range.loop, ints, intss, int, bool, row, frac, fracs, ← List.map_take, ← List.map_drop, mHouses_at, h1]
  | true =>
    have h5 : xss.length = 5 := by simpa [eatB, h1] using h
    simp (config := {contextual := true}) [Try.f11, List.range, List.range.loop, ints, intss, int, bool, row, frac, fracs, ← List.map_take, ← List.map_drop, mHouses_at, h1, h5]

set_option maxRecDepth 16000 in
set_option maxHeartbeats 4000000 in
theorem specEat_yes (nl : Bool) (xss : List (Bool × List Int)) (hh : housesB xss = true) (h5 : xss.length ≠ 5) : CallOk Try.prog 11 [intss nl xss] (.tup [.sl false 1 ((ft (es xss xss.length).D (es xss xss.length).out).map frow), .v (.bool true)]) := by
  have h := hs_of hh h5
  have hn4 := h.n4
  have hn1 := h.n1
  have hG : FnsOk Try.prog [(43, mHouses), (44, mZeroT), (45, mFstB), (46, mDivK), (47, mLesF), (48, mAdd), (49, mMinus)] := (.cons specHouses_ok (.cons l29Empty_ok (.cons l22First_ok (.cons specDivK_ok (.cons l29Less_ok (.cons specAdd_ok (.cons l29Minus_ok .nil)))))))
  refine callOk_awp (ctx_ok eqOk hG) mixed (live := [true, false, true, true, true, true, true, true, false, true, true, true, false, true, true, true, true, true, true, false, true, true, true, false, true, false, false, false, false, false, false, false, false, false, true, false, false, false, false, true, true, true, false, false, false, false, false, false, true, true, true, true, false, false, false, false, false, false, false, false, false, false, false, false, true, true, true, true, false, false, false, false, false, false, true, false, false, false, false, false, false, false, false, false, false, false, false, false, true, true, true, true, false, false, false, false, true, false, false, false, false, false, false, false, false, false, false, false, false, false, false, true, true, true, true]) (dt := [(38, ⟨[(11, 13)], [0, 0, 0, 0, 0, 0, 0, 0, 0, 0, 0, 0, 1], []⟩), (39, ⟨[], [], []⟩), (40, ⟨[(8, 10)], [0, 0, 0, 0, 0, 0, 0, 0, 0, 1], []⟩)]) Try.func11 rfl (by kernel_rfl) (by kernel_rfl) fun w0 hlens => ?_
  clear hlens
  have h5i : ¬ (xss.length : Int) = 5 := by omega
  have hb : 8 * xss.length ≤ 281474976710656 ∧ xss.length ≤ 4611686018427387904 ∧ xss.length ≤ 281474976710656 ∧ 24 * xss.length ≤ 281474976710656 ∧ xss.length ≤ 1000 := by omega
  have hze := mZeroT_at (xss.length : Int) (by omega)
  have hz1 : List.replicate xss.length ((1, 1) : Int × Int) = fl (es xss 0).D (es xss 0).lf := by
    rw [show (es xss 0).D = 1 from rfl, show (es xss 0).lf = List.replicate xss.length 1 from rfl, fl_one]
  have hz2 : List.replicate xss.length ((false, List.replicate xss.length (0, 1)) : Bool × List (Int × Int)) = ft (es xss 0).D (es xss 0).out := by
    rw [show (es xss 0).D = 1 from rfl, show (es xss 0).out = List.replicate xss.length (List.replicate xss.length 0) from rfl, ft_zero]
  simp only [Int.toNat_natCast, hz2] at hze
  simp (config := {contextual := true}) [Try.f11, List.range, List.range.loop, ints, intss, int, bool, row, frac, fracs, ← List.map_take, ← List.map_drop, mHouses_at, hh, h5, h5i, hze, hb]
  have hft0 : (ft (es xss 0).D (es xss 0).out).length = xss.length := by rw [ft_len, (es_lens h 0).2.2]
  refine awp_range (live := [true, false, true, true, true, true, true, true, false, true, true, true, false, true, true, true, true, true, true, false, true, true, true, false, true, false, false, false, false, false, false, false, false, false, true, false, false, false, false, true, true, true, false, false, false, false, false, false, true, true, true, true, false, false, false, false, false, false, false, false, false, false, false, false, true, true, true, true, false, false, false, false, false, false, true, false, false, false, false, false, false, false, false, false, false, false, false, false, true, true, true, true, false, false, false, false, true, false, false, false, false, false, false, false, false, false, false, false, false, false, false, true, true, true, true]) (ctx_ok eqOk hG) mixed [true, false, false, false, true, true, true, false, false, false, false, false, false, false, false, false, false, false, false, false, false, false, false, false, false, false, false, false, false, false, false, false, false, false, false, false, false, false, false, true, true] (xss.length) (fun k => True) (fun k => ⟨[intss nl xss, .junk, .junk, .junk, int xss.length, .ref 0 [] 0 xss.length, .ref 1 [] 0 k, .junk, .junk, .junk, .junk, .junk, .junk, .junk, .junk, .junk, .junk, .junk, .junk, .junk, .junk, .junk, .junk, .junk, .junk, .junk, .junk, .junk, .junk, .junk, .junk, .junk, .junk, .junk, .junk, .junk, .junk, .junk, .junk, int xss.length, int k, .junk, .junk, .junk, .junk, .junk, .junk, .junk, .junk, .junk, .junk, .junk, .junk, .junk, .junk, .junk, .junk, .junk, .junk, .junk, .junk, .junk, .junk, .junk, .junk, .junk, .junk, .junk, .junk, .junk, .junk, .junk, .junk, .junk, .junk, .junk, .junk, .junk, .junk, .junk, .junk, .junk, .junk, .junk, .junk, .junk, .junk, .junk, .junk, .junk, .junk, .junk, .junk, .junk, .junk, .junk, .junk, .junk, .junk, .junk, .junk, .junk, .junk, .junk, .junk, .junk, .junk, .junk, .junk, .junk, .junk, .junk, .junk, .junk, .junk, .junk, .junk, .junk, .junk, .junk, .junk, .junk, .junk, .junk, .junk, .junk, .junk, .junk, .junk, .junk, .junk, .junk, .junk, .junk, .junk, .junk, .junk, .junk, .junk, .junk, .junk, .junk, .junk, .junk, .junk, .junk, .junk, .junk, .junk, .junk, .junk], [⟨true, .sl false 1 ((ft (es xss 0).D (es xss 0).out).map frow)⟩, ⟨true, .sl false 2 ((List.replicate k ((1, 1) : Int × Int)).map frac)⟩]⟩) ?_ (by simp [sub, slotsLe, clean, keep, refsL, refs, once, place, renL, ren, List.replicate, int, bool, intss, hft0]) ?_ ?_ ?_
  · omega
  · trivial
  · intro k hk _ hwk
    have hb : k + 1 ≤ 4611686018427387904 ∧ (k + 1) * 24 ≤ 140737488355328 ∧ (k + 1) * 16 ≤ 140737488355328 ∧ (k + 1) * 8 ≤ 140737488355328 := by omega
    simp (config := {contextual := true}) [List.range, List.range.loop, ints, intss, int, bool, row, frac, fracs, ← List.map_take, ← List.map_drop, hk, hwk, hb, List.replicate_succ']
    done
  · intro _
    rw [hz1]
    simp (config := {contextual := true}) [List.range, List.range.loop, ints, intss, int, bool, row, frac, fracs, ← List.map_take, ← List.map_drop]
    refine awp_loop_of (live := [true, false, true, true, true, true, true, true, false, true, true, true, false, true, true, true, true, true, true, false, true, true, true, false, true, false, false, false, false, false, false, false, false, false, true, false, false, false, false, true, true, true, false, false, false, false, false, false, true, true, true, true, false, false, false, false, false, false, false, false, false, false, false, false, true, true, true, true, false, false, false, false, false, false, true, false, false, false, false, false, false, false, false, false, false, false, false, false, true, true, true, true, false, false, false, false, true, false, false, false, false, false, false, false, false, false, false, false, false, false, false, true, true, true, true]) (ctx_ok eqOk hG) mixed [true, false, false, false, true, true, true] (α := {r : Nat // r ≤ xss.length}) (fun r => ⟨[intss nl xss, .junk, .junk, .junk, int xss.length, .ref 0 [] 0 xss.length, .ref 1 [] 0 xss.length, .junk, .junk, .junk, .junk, .junk, .junk, .junk, .junk, .junk, .junk, .junk, .junk, .junk, .junk, .junk, .junk, .junk, .junk, .junk, .junk, .junk, .junk, .junk, .junk, .junk, .junk, .junk, .junk, .junk, .junk, .junk, .junk, .junk, .junk, .junk, .junk, .junk, .junk, .junk, .junk, .junk, .junk, .junk, .junk, .junk, .junk, .junk, .junk, .junk, .junk, .junk, .junk, .junk, .junk, .junk, .junk, .junk, .junk, .junk, .junk, .junk, .junk, .junk, .junk, .junk, .junk, .junk, .junk, .junk, .junk, .junk, .junk, .junk, .junk, .junk, .junk, .junk, .junk, .junk, .junk, .junk, .junk, .junk, .junk, .junk, .junk, .junk, .junk, .junk, .junk, .junk, .junk, .junk, .junk, .junk, .junk, .junk, .junk, .junk, .junk, .junk, .junk, .junk, .junk, .junk, .junk, .junk, .junk, .junk, .junk, .junk, .junk, .junk, .junk, .junk, .junk, .junk, .junk, .junk, .junk, .junk, .junk, .junk, .junk, .junk, .junk, .junk, .junk, .junk, .junk, .junk, .junk, .junk, .junk, .junk, .junk, .junk, .junk, .junk, .junk, .junk, .junk, .junk, .junk], [⟨true, .sl false 1 ((ft (es xss r.1).D (es xss r.1).out).map frow)⟩, ⟨true, .sl false 2 ((fl (es xss r.1).D (es xss r.1).lf).map frac)⟩]⟩) (fun r => xss.length - r.1) ⟨0, by omega⟩ (by simp [sub, slotsLe, clean, keep, refsL, refs, once, place, renL, ren, List.replicate, int, bool, intss]) ?_
    rintro ⟨r, hr⟩
    obtain ⟨hD0, hl, hol⟩ := es_lens h r
    have hend0 : opn (es xss r) = [] → es xss xss.length = es xss r := fun ho => es_stay ho _ hr
    have hR0 := rd_es h (r := r)
    have hlt : opn (es xss r) ≠ [] → r < xss.length := fun ho => by
      rcases Nat.lt_or_ge r xss.length with h1 | h1
      · exact h1
      · exact absurd (by rw [show r = xss.length by omega]; exact es_end h) ho
    have hnext : opn (es xss r) ≠ [] → es xss (r + 1) = rndE xss (es xss r) := fun ho => if_neg ho
    simp only
    generalize es xss r = s at *
    have hfl : (fl s.D s.lf).length = xss.length := by rw [fl_len, hl]
    have hft : (ft s.D s.out).length = xss.length := by rw [ft_len, hol]
    simp (config := {contextual := true}) [List.range, List.range.loop, ints, intss, int, bool, row, frac, fracs, ← List.map_take, ← List.map_drop, hb, hfl, hft]
    refine awp_range (live := [true, false, true, true, true, true, true, true, false, true, true, true, false, true, true, true, true, true, true, false, true, true, true, false, true, false, false, false, false, false, false, false, false, false, true, false, false, false, false, true, true, true, false, false, false, false, false, false, true, true, true, true, false, false, false, false, false, false, false, false, false, false, false, false, true, true, true, true, false, false, false, false, false, false, true, false, false, false, false, false, false, false, false, false, false, false, false, false, true, true, true, true, false, false, false, false, true, false, false, false, false, false, false, false, false, false, false, false, false, false, false, true, true, true, true]) (ctx_ok eqOk hG) mixed [true, false, false, false, true, true, true, true, false, false, false, false, false, false, false, false, false, false, false, false, false, false, false, false, false, false, false, false, false, false, false, false, false, false, false, false, false, false, false, false, false, false, false, false, false, false, false, false, true, true, true] (xss.length) (fun x => True) (fun x => ⟨[intss nl xss, .junk, .junk, .junk, int xss.length, .ref 0 [] 0 xss.length, .ref 1 [] 0 xss.length, .ref 2 [] 0 x, .junk, .junk, .junk, .junk, .junk, .junk, .junk, .junk, .junk, .junk, .junk, .junk, .junk, .junk, .junk, .junk, .junk, .junk, .junk, .junk, .junk, .junk, .junk, .junk, .junk, .junk, .junk, .junk, .junk, .junk, .junk, .junk, .junk, .junk, .junk, .junk, .junk, .junk, .junk, .junk, .ref 1 [] 0 xss.length, int xss.length, int x, .junk, .junk, .junk, .junk, .junk, .junk, .junk, .junk, .junk, .junk, .junk, .junk, .junk, .junk, .junk, .junk, .junk, .junk, .junk, .junk, .junk, .junk, .junk, .junk, .junk, .junk, .junk, .junk, .junk, .junk, .junk, .junk, .junk, .junk, .junk, .junk, .junk, .junk, .junk, .junk, .junk, .junk, .junk, .junk, .junk, .junk, .junk, .junk, .junk, .junk, .junk, .junk, .junk, .junk, .junk, .junk, .junk, .junk, .junk, .junk, .junk, .junk, .junk, .junk, .junk, .junk, .junk, .junk, .junk, .junk, .junk, .junk, .junk, .junk, .junk, .junk, .junk, .junk, .junk, .junk, .junk, .junk, .junk, .junk, .junk, .junk, .junk, .junk, .junk, .junk, .junk, .junk, .junk, .junk, .junk, .junk, .junk, .junk, .junk, .junk], [⟨true, .sl false 1 ((ft s.D s.out).map frow)⟩, ⟨true, .sl false 2 ((fl s.D s.lf).map frac)⟩, ⟨true, .sl false 1 ((bsL s x).map bool)⟩]⟩) ?_ (by simp [sub, slotsLe, clean, keep, refsL, refs, once, place, renL, ren, List.replicate, int, bool, intss, bsL]) ?_ ?_ ?_
    · omega
    · trivial
    · intro x hx _ hwx
      have hxl : x < (fl s.D s.lf).length := by omega
      have g1 := fl_get hxl
      have hp : decide (0 < (qd (at0 s.lf x) s.D).1) = decide (0 < at0 s.lf x) := by
        have := qd_pos (a := at0 s.lf x) hD0
        rw [Bool.eq_iff_iff, decide_eq_true_eq, decide_eq_true_eq]; exact this
      have hbs := bsL_succ (s := s) (k := x)
      have hbl := bsL_len (s := s) (k := x)
      have hbl1 := bsL_len (s := s) (k := x + 1)
      have hb2 : x ≤ 4611686018427387903 ∧ x + 1 ≤ 4611686018427387904 ∧ (x + 1) * 8 ≤ 140737488355328 ∧ x + 1 ≤ 140737488355328 := by omega
      simp (config := {contextual := true}) [List.range, List.range.loop, ints, intss, int, bool, row, frac, fracs, ← List.map_take, ← List.map_drop, hx, hxl, hfl, hft, g1, hp, hwx, hbl, hbl1, hbs, hb2]
      done
    · intro _
      have hbl := bsL_len (s := s) (k := xss.length)
      have hez : List.replicate xss.length (.v (.int .i64 0)) = (etr xss s 0).map int := by rw [etr_zero]; simp [int]
      simp (config := {contextual := true}) [List.range, List.range.loop, ints, intss, int, bool, row, frac, fracs, ← List.map_take, ← List.map_drop, hb]
      refine awp_range (live := [true, false, true, true, true, true, true, true, false, true, true, true, false, true, true, true, true, true, true, false, true, true, true, false, true, false, false, false, false, false, false, false, false, false, true, false, false, false, false, true, true, true, false, false, false, false, false, false, true, true, true, true, false, false, false, false, false, false, false, false, false, false, false, false, true, true, true, true, false, false, false, false, false, false, true, false, false, false, false, false, false, false, false, false, false, false, false, false, true, true, true, true, false, false, false, false, true, false, false, false, false, false, false, false, false, false, false, false, false, false, false, true, true, true, true]) (ctx_ok eqOk hG) mixed [true, false, false, false, true, true, true, true, false, false, true, true, false, false, false, false, false, false, false, false, false, false, false, false, false, false, false, false, false, false, false, false, false, false, false, false, false, false, false, false, false, false, false, false, false, false, false, false, false, false, false, false, false, false, false, false, false, false, false, false, false, false, false, false, true, true, true] (xss.length) (fun i => opn s = [] → i = 0) (fun i => ⟨[intss nl xss, .junk, .junk, .junk, int xss.length, .ref 0 [] 0 xss.length, .ref 1 [] 0 xss.length, .ref 2 [] 0 xss.length, .junk, .junk, .ref 3 [] 0 xss.length, .ref 4 [] 0 i, .junk, .junk, .junk, .junk, .junk, .junk, .junk, .junk, .junk, .junk, .junk, .junk, .junk, .junk, .junk, .junk, .junk, .junk, .junk, .junk, .junk, .junk, .junk, .junk, .junk, .junk, .junk, .junk, .junk, .junk, .junk, .junk, .junk, .junk, .junk, .junk, .junk, .junk, .junk, .junk, .junk, .junk, .junk, .junk, .junk, .junk, .junk, .junk, .junk, .junk, .junk, .junk, intss nl xss, int xss.length, int i, .junk, .junk, .junk, .junk, .junk, .junk, .junk, .junk, .junk, .junk, .junk, .junk, .junk, .junk, .junk, .junk, .junk, .junk, .junk, .junk, .junk, .junk, .junk, .junk, .junk, .junk, .junk, .junk, .junk, .junk, .junk, .junk, .junk, .junk, .junk, .junk, .junk, .junk, .junk, .junk, .junk, .junk, .junk, .junk, .junk, .junk, .junk, .junk, .junk, .junk, .junk, .junk, .junk, .junk, .junk, .junk, .junk, .junk, .junk, .junk, .junk, .junk, .junk, .junk, .junk, .junk, .junk, .junk, .junk, .junk, .junk, .junk, .junk, .junk, .junk, .junk, .junk, .junk, .junk, .junk, .junk, .junk, .junk, .junk], [⟨true, .sl false 1 ((ft s.D s.out).map frow)⟩, ⟨true, .sl false 2 ((fl s.D s.lf).map frac)⟩, ⟨true, .sl false 1 ((bsL s xss.length).map bool)⟩, ⟨true, .sl false 1 ((etr xss s i).map int)⟩, ⟨true, .sl false 1 ((atL xss s i).map int)⟩]⟩) ?_ (by simp [sub, slotsLe, clean, keep, refsL, refs, once, place, renL, ren, List.replicate, int, bool, intss, hez, atL]) ?_ ?_ ?_
      · omega
      · intro _; rfl
      · intro i hi hi0 hwi
        have htb : (bsL s xss.length).take xss.length = bsL s xss.length := List.take_of_length_le (by omega)
        have hal := atL_len (xss := xss) (s := s) (k := i)
        by_cases ho : opn s = []
        · have hno := fstB_no h hl ho hi
          have hend := hend0 ho
          obtain ⟨z, hno, hneg⟩ : ∃ z : Int, mFstB [.sl xss[i].1 1 (xss[i].2.map int), .sl false 1 ((bsL s xss.length).map bool)] = some (.v (.int .i64 z)) ∧ z < 0 := ⟨-1, hno, by decide⟩
          rw [hend]
          simp (config := {maxSteps := 1000000}) [List.range, List.range.loop, ints, intss, int, bool, row, frac, fracs, ← List.map_take, ← List.map_drop, hi, hbl, htb, hno, hneg, hft]
          done
        · have hR := hR0 ho
          obtain ⟨x, f1, f2, f3⟩ := fstB_yes h hR hi
          have hel := etr_len (xss := xss) (s := s) (k := i)
          have hxe : x < (etr xss s i).length := by omega
          have hg := etr_get hxe
          have hes := etr_set (xss := xss) (s := s) (k := i) (by omega)
          rw [f2] at hes
          have has := atL_succ (xss := xss) (s := s) (k := i)
          rw [f2] at has
          have hal1 := atL_len (xss := xss) (s := s) (k := i + 1)
          have hx0 : ¬ (x : Int) < 0 := by omega
          have hcb := cn_bd (xss := xss) (s := s) (x := x) (k := i)
          have hwc : IntKind.i64.wrap (cn xss s x i + 1) = cn xss s x i + 1 := wrapI (by omega) (by omega)
          have hset : ((etr xss s i).map int).set x (.v (.int .i64 (cn xss s x i + 1))) = (etr xss s (i + 1)).map int := by rw [← hes, List.map_set]; rfl
          have hb2 : i ≤ 4611686018427387903 ∧ i + 1 ≤ 4611686018427387904 ∧ (i + 1) * 8 ≤ 140737488355328 := by omega
          simp (config := {contextual := true, maxSteps := 1000000}) [List.range, List.range.loop, ints, intss, int, bool, row, frac, fracs, ← List.map_take, ← List.map_drop, hi, hbl, htb, f1, f3, hx0, hel, hxe, hg, hwc, hset, hwi, has, hal, hal1, hb2, ho]
          done
      · intro hi0
        have ho : opn s ≠ [] := fun ho => by have := hi0 ho; omega
        have hR := hR0 ho
        have hr1 := hlt ho
        have hnx := hnext ho
        have hD1 := hR.D1
        have hst0 := hR.st0
        have hst1 := hR.st1
        have hel := etr_len (xss := xss) (s := s) (k := xss.length)
        have hal := atL_len (xss := xss) (s := s) (k := xss.length)
        have hq1 : ((1 : Int), (1 : Int)) = qd (12 * s.D) (12 * s.D) := (qd_one (by omega)).symm
        have hs0 : [AV.agg [.v (.int .i64 1), .v (.int .i64 1)]] = [frac (qd (stTo xss s 0) (12 * s.D))] := by
          rw [show stTo xss s 0 = 12 * s.D from rfl, ← hq1]; rfl
        simp (config := {contextual := true}) [List.range, List.range.loop, ints, intss, int, bool, row, frac, fracs, ← List.map_take, ← List.map_drop, hel]
        refine awp_range (live := [true, false, true, true, true, true, true, true, false, true, true, true, false, true, true, true, true, true, true, false, true, true, true, false, true, false, false, false, false, false, false, false, false, false, true, false, false, false, false, true, true, true, false, false, false, false, false, false, true, true, true, true, false, false, false, false, false, false, false, false, false, false, false, false, true, true, true, true, false, false, false, false, false, false, true, false, false, false, false, false, false, false, false, false, false, false, false, false, true, true, true, true, false, false, false, false, true, false, false, false, false, false, false, false, false, false, false, false, false, false, false, true, true, true, true]) (ctx_ok eqOk hG) mixed [true, false, false, false, true, true, true, false, false, false, false, true, false, false, false, true, false, false, false, false, false, false, false, false, false, false, false, false, false, false, false, false, false, false, false, false, false, false, false, false, false, false, false, false, false, false, false, false, false, false, false, false, false, false, false, false, false, false, false, false, false, false, false, false, false, false, false, false, false, false, false, false, false, false, false, false, false, false, false, false, false, false, false, false, false, false, false, false, true, true, true] (xss.length) (fun k => True) (fun k => ⟨[intss nl xss, .junk, .junk, .junk, int xss.length, .ref 0 [] 0 xss.length, .ref 1 [] 0 xss.length, .junk, .junk, .junk, .junk, .ref 2 [] 0 xss.length, .junk, .junk, .junk, .ptr 3 [] 0 0, .junk, .junk, .junk, .junk, .junk, .junk, .junk, .junk, .junk, .junk, .junk, .junk, .junk, .junk, .junk, .junk, .junk, .junk, .junk, .junk, .junk, .junk, .junk, .junk, .junk, .junk, .junk, .junk, .junk, .junk, .junk, .junk, .junk, .junk, .junk, .junk, .junk, .junk, .junk, .junk, .junk, .junk, .junk, .junk, .junk, .junk, .junk, .junk, .junk, .junk, .junk, .junk, .junk, .junk, .junk, .junk, .junk, .junk, .junk, .junk, .junk, .junk, .junk, .junk, .junk, .junk, .junk, .junk, .junk, .junk, .junk, .junk, .ref 4 [] 0 xss.length, int xss.length, int k, .junk, .junk, .junk, .junk, .junk, .junk, .junk, .junk, .junk, .junk, .junk, .junk, .junk, .junk, .junk, .junk, .junk, .junk, .junk, .junk, .junk, .junk, .junk, .junk, .junk, .junk, .junk, .junk, .junk, .junk, .junk, .junk, .junk, .junk, .junk, .junk, .junk, .junk, .junk, .junk, .junk, .junk, .junk, .junk, .junk, .junk, .junk, .junk, .junk, .junk, .junk, .junk, .junk, .junk, .junk, .junk, .junk, .junk, .junk, .junk], [⟨true, .sl false 1 ((ft s.D s.out).map frow)⟩, ⟨true, .sl false 2 ((fl s.D s.lf).map frac)⟩, ⟨true, .sl false 1 ((atL xss s xss.length).map int)⟩, ⟨true, .sl false 2 [frac (qd (stTo xss s k) (12 * s.D))]⟩, ⟨true, .sl false 1 ((etr xss s xss.length).map int)⟩]⟩) ?_ (by simp [sub, slotsLe, clean, keep, refsL, refs, once, place, renL, ren, List.replicate, int, bool, intss, hs0]) ?_ ?_ ?_
        · omega
        · trivial
        · intro k hk _ hwk
          have hje : k < (etr xss s xss.length).length := by omega
          have hjl : k < (fl s.D s.lf).length := by omega
          have g1 := etr_get hje
          have g2 := fl_get hjl
          have hcb := cn_bd (xss := xss) (s := s) (x := k) (k := xss.length)
          have hsb := stTo_bd hR (k := k)
          rw [stTo_succ]
          generalize stTo xss s k = st at *
          by_cases hc0 : 0 < cn xss s k xss.length
          · obtain ⟨t1, t2, t3⟩ := tm_qd h hR hc0
            have hlb := hR.lb k
            have hdv := divQ (a := at0 s.lf k) (D := s.D) (k := cn xss s k xss.length) hD0 (by omega) (by omega) (by omega) t1
            have hls := lesQ (a := st) (b := tmx xss s k) (D := 12 * s.D) (by omega) (by omega) (by omega) (by omega)
            have hsf : stpF xss s st (k : Int) = if tmx xss s k < st then tmx xss s k else st := by
              unfold stpF; rw [Int.toNat_natCast]; simp [hc0]
            rw [hsf]
            generalize (if tmx xss s k < st then tmx xss s k else st) = st' at *
            simp (config := {contextual := true, maxSteps := 1000000}) [List.range, List.range.loop, ints, intss, int, bool, row, frac, fracs, ← List.map_take, ← List.map_drop, hk, hel, hje, hjl, hfl, g1, g2, hc0, hdv, hls, hwk]
            done
          · have hsf : stpF xss s st (k : Int) = st := by
              unfold stpF; rw [if_neg (by rw [Int.toNat_natCast]; omega)]
            simp (config := {contextual := true}) [List.range, List.range.loop, ints, intss, int, bool, row, frac, fracs, ← List.map_take, ← List.map_drop, hk, hel, hje, g1, hc0, hsf, hwk]
            done
        · intro _
          rw [show stTo xss s xss.length = stp xss s from rfl]
          have e1 : fl s.D s.lf = fl (12 * s.D) (el xss s 0) := fl_up.symm
          have e2 : ft s.D s.out = ft (12 * s.D) (eo xss s 0) := ft_up.symm
          simp (config := {contextual := true}) [List.range, List.range.loop, ints, intss, int, bool, row, frac, fracs, ← List.map_take, ← List.map_drop, hal]
          refine awp_range (live := [true, false, true, true, true, true, true, true, false, true, true, true, false, true, true, true, true, true, true, false, true, true, true, false, true, false, false, false, false, false, false, false, false, false, true, false, false, false, false, true, true, true, false, false, false, false, false, false, true, true, true, true, false, false, false, false, false, false, false, false, false, false, false, false, true, true, true, true, false, false, false, false, false, false, true, false, false, false, false, false, false, false, false, false, false, false, false, false, true, true, true, true, false, false, false, false, true, false, false, false, false, false, false, false, false, false, false, false, false, false, false, true, true, true, true]) (ctx_ok eqOk hG) mixed [true, false, false, false, true, true, true, false, false, false, false, false, false, false, false, true, false, false, false, false, false, false, false, false, false, false, false, false, false, false, false, false, false, false, false, false, false, false, false, false, false, false, false, false, false, false, false, false, false, false, false, false, false, false, false, false, false, false, false, false, false, false, false, false, false, false, false, false, false, false, false, false, false, false, false, false, false, false, false, false, false, false, false, false, false, false, false, false, false, false, false, false, false, false, false, false, false, false, false, false, false, false, false, false, false, false, false, false, false, false, false, true, true, true] (xss.length) (fun i => True) (fun i => ⟨[intss nl xss, .junk, .junk, .junk, int xss.length, .ref 0 [] 0 xss.length, .ref 1 [] 0 xss.length, .junk, .junk, .junk, .junk, .junk, .junk, .junk, .junk, .ptr 2 [] 0 0, .junk, .junk, .junk, .junk, .junk, .junk, .junk, .junk, .junk, .junk, .junk, .junk, .junk, .junk, .junk, .junk, .junk, .junk, .junk, .junk, .junk, .junk, .junk, .junk, .junk, .junk, .junk, .junk, .junk, .junk, .junk, .junk, .junk, .junk, .junk, .junk, .junk, .junk, .junk, .junk, .junk, .junk, .junk, .junk, .junk, .junk, .junk, .junk, .junk, .junk, .junk, .junk, .junk, .junk, .junk, .junk, .junk, .junk, .junk, .junk, .junk, .junk, .junk, .junk, .junk, .junk, .junk, .junk, .junk, .junk, .junk, .junk, .junk, .junk, .junk, .junk, .junk, .junk, .junk, .junk, .junk, .junk, .junk, .junk, .junk, .junk, .junk, .junk, .junk, .junk, .junk, .junk, .junk, .junk, .junk, .ref 3 [] 0 xss.length, int xss.length, int i, .junk, .junk, .junk, .junk, .junk, .junk, .junk, .junk, .junk, .junk, .junk, .junk, .junk, .junk, .junk, .junk, .junk, .junk, .junk, .junk, .junk, .junk, .junk, .junk, .junk, .junk, .junk, .junk, .junk, .junk, .junk, .junk, .junk, .junk, .junk, .junk, .junk], [⟨true, .sl false 1 ((ft (12 * s.D) (eo xss s i)).map frow)⟩, ⟨true, .sl false 2 ((fl (12 * s.D) (el xss s i)).map frac)⟩, ⟨true, .sl false 2 [frac (qd (stp xss s) (12 * s.D))]⟩, ⟨true, .sl false 1 ((atL xss s xss.length).map int)⟩]⟩) ?_ (by simp [sub, slotsLe, clean, keep, refsL, refs, once, place, renL, ren, List.replicate, int, bool, intss, e1, e2, frac]) ?_ ?_ ?_
          · omega
          · trivial
          · intro i hi _ hwi
            obtain ⟨x, _, f2, f3⟩ := fstB_yes h hR hi
            have hia : i < (atL xss s xss.length).length := by omega
            have f1 := atL_get hia
            rw [f2] at f1
            have n1 : (fl (12 * s.D) (el xss s i)).length = xss.length := by rw [fl_len, el_len, hl]
            have n2 : (ft (12 * s.D) (eo xss s i)).length = xss.length := by rw [ft_len, eo_len, hol]
            have hxl : x < (fl (12 * s.D) (el xss s i)).length := by omega
            have hio : i < (ft (12 * s.D) (eo xss s i)).length := by omega
            have n3 : (fl (12 * s.D) ((eo xss s i).getD i [])).length = xss.length := by rw [fl_len, eo_rlen hR hi]
            have hxr : x < (fl (12 * s.D) ((eo xss s i).getD i [])).length := by omega
            have g1 := fl_get hxl
            have g2 := ft_get hio
            have g3 := fl_get hxr
            have b1 := hR.el i (by omega) x
            have b2 := eo_bd hR hi (x := x)
            have b3 := hR.cn i hi
            rw [f2] at b3
            have hD12 : 0 < 12 * s.D ∧ 12 * s.D ≤ 100000 := by omega
            have hadd := addQ (a := at0 ((eo xss s i).getD i []) x) (b := stp xss s) (D := 12 * s.D) hD12.1 hD12.2 (by omega) (by omega)
            have hsub := subQ (a := at0 (el xss s i) x) (b := stp xss s) (D := 12 * s.D) hD12.1 hD12.2 (by omega) (by omega)
            have k1 := fl_set (D := 12 * s.D) (l := (eo xss s i).getD i []) (x := x) (a := at0 ((eo xss s i).getD i []) x + stp xss s)
            have k2 := ft_set (D := 12 * s.D) (t := eo xss s i) (i := i) (r := ((eo xss s i).getD i []).set x (at0 ((eo xss s i).getD i []) x + stp xss s))
            have k3 := fl_set (D := 12 * s.D) (l := el xss s i) (x := x) (a := at0 (el xss s i) x - stp xss s)
            have m1 : el xss s (i + 1) = (el xss s i).set x (at0 (el xss s i) x - stp xss s) := by rw [el, f2]
            have m2 : eo xss s (i + 1) = (eo xss s i).set i (((eo xss s i).getD i []).set x (at0 ((eo xss s i).getD i []) x + stp xss s)) := by rw [eo, f2]
            rw [m1, m2]
            generalize hrw : (eo xss s i).getD i [] = rw0 at *
            simp (config := {contextual := true, maxSteps := 1000000}) [List.range, List.range.loop, ints, intss, int, bool, row, frac, fracs, ← List.map_take, ← List.map_drop, frow, hi, hia, hal, f1, f3, n1, n2, n3, hxl, hio, hxr, g1, g2, g3, hadd, hsub, k1, k2, k3, hwi]
            done
          · intro _
            have hrn : rndE xss s = ⟨12 * s.D, el xss s xss.length, eo xss s xss.length⟩ := rfl
            simp (config := {contextual := true}) [List.range, List.range.loop, ints, intss, int, bool, row, frac, fracs, ← List.map_take, ← List.map_drop]
            refine ⟨⟨r + 1, hr1⟩, ?_, by simp; omega⟩
            simp [sub, slotsLe, clean, keep, refsL, refs, once, place, renL, ren, List.replicate, int, bool, hnx, hrn, intss]

theorem specEatTogether_ok : FnOk Try.prog 11 mEat := by
  refine mk_ok fun ⟨nl, xss⟩ _ => ?_
  cases h : eatB xss with
  | false =>
    have e : eatT xss = [] := by unfold eatT; rw [h]; rfl
    simp only [e, h, Bool.not_false, List.map_nil]; exact specEat_no nl xss h
  | true =>
    have e : eatT xss = ft (es xss xss.length).D (es xss xss.length).out := by unfold eatT; rw [if_pos h]
    simp only [eatB, Bool.and_eq_true, decide_eq_true_eq] at h
    obtain ⟨h1, h2⟩ := h
    simp only [e, show eatB xss = true by simp [eatB, h1, h2], Bool.not_true]; exact specEat_yes nl xss h1 h2

end Go.Proofs.Ytkfgmpmeipilnaa.Ax
