/-
  Contracts: EatTogether (the program). No condition.
-/
import Derived.Test.YtkfmhpgnhkdebaaGreatDoorCG14
namespace Go.Proofs.YtkfmhpgnhkdebaaGreatDoor.Ax
open Go Go.RowKit
set_option linter.unusedSimpArgs false
set_option linter.unusedVariables false
theorem fstI_congr {p q : Int → Bool} : ∀ {l : List Int}, (∀ x ∈ l, p x = q x) → fstI p l = fstI q l
  | [], _ => rfl
  | x :: l, h => by
    unfold fstI
    rw [List.find?_cons, List.find?_cons, h x (by simp)]
    have := fstI_congr (p := p) (q := q) (l := l) fun y hy => h y (by simp [hy])
    unfold fstI at this
    rw [this]
theorem fst_open {xss : List (Bool × List Int)} {s : Es} (h : Hs xss) (hR : Rd xss s) {i : Nat} (hi : i < xss.length) : ∃ x : Nat, fstI (fun h => decide (0 ≤ pos (opn s) h)) xss[i].2 = some (x : Int) ∧ hxi xss s i = x ∧ x < xss.length ∧ 0 < at0 s.lf x := by
  obtain ⟨x, e, e1, e2, e3⟩ := hR.hx i hi
  refine ⟨x, ?_, e1, e2, e3⟩
  rw [← e]
  refine fstI_congr fun y hy => ?_
  have hb := (h.all i hi).1 y hy
  rw [Bool.eq_iff_iff, decide_eq_true_eq, decide_eq_true_eq, pos_iff, opn_mem]
  constructor
  · rintro ⟨j, rfl, _, h2⟩
    simpa using h2
  · intro h2
    exact ⟨y.toNat, by omega, by rw [hR.ll]; omega, h2⟩
def zT (n k : Nat) : List AV := List.replicate k (frow (false, List.replicate n (0, 1))) ++ List.replicate (n - k) (.sl true 1 [])
theorem zT_len {n k : Nat} (h : k ≤ n) : (zT n k).length = n := by simp [zT]; omega
theorem zT_set {n k : Nat} (h : k < n) : (zT n k).set k (.sl false 2 ((List.replicate n ((0, 1) : Int × Int)).map frac)) = zT n (k + 1) := by
  have : AV.sl false 2 ((List.replicate n ((0, 1) : Int × Int)).map frac) = frow (false, List.replicate n (0, 1)) := rfl
  rw [this]
  unfold zT
  rw [List.set_append_right _ _ (by simp), List.length_replicate, Nat.sub_self]
  obtain ⟨m, hm⟩ : ∃ m, n - k = m + 1 := ⟨n - k - 1, by omega⟩
  rw [hm, show n - (k + 1) = m by omega, List.replicate_succ (n := m), List.set_cons_zero, List.replicate_succ' (n := k)]
  simp
def opA : List Int → AV
  | [] => .sl true 1 []
  | a :: l => .ref 2 [] 0 (a :: l).length
def opT : List Int → List Tok
  | [] => []
  | a :: l => [⟨true, .sl false 1 ((a :: l).map int)⟩]
section
variable {a b D : Int}
theorem addQ (hD : 0 < D) (hD1 : D ≤ 100000) (ha : 0 ≤ a ∧ a ≤ 1000000) (hb : 0 ≤ b ∧ b ≤ 1000000) : mAdd [.agg [.v (.int .i64 (qd a D).1), .v (.int .i64 (qd a D).2)], .agg [.v (.int .i64 (qd b D).1), .v (.int .i64 (qd b D).2)]] = some (.tup [.agg [.v (.int .i64 (qd (a + b) D).1), .v (.int .i64 (qd (a + b) D).2)], .v (.bool true)]) := by
  have := mAdd_at (qd a D).1 (qd a D).2 (qd b D).1 (qd b D).2
  rw [show addF ((qd a D).1, (qd a D).2) ((qd b D).1, (qd b D).2) = (qd (a + b) D, true) from addF_qd hD (by omega) (by omega) (by omega) (by omega)] at this
  exact this
theorem subQ (hD : 0 < D) (hD1 : D ≤ 100000) (ha : 0 ≤ a ∧ a ≤ 1000000) (hb : 0 ≤ b ∧ b ≤ 1000000) : mMinus [.agg [.v (.int .i64 (qd a D).1), .v (.int .i64 (qd a D).2)], .agg [.v (.int .i64 (qd b D).1), .v (.int .i64 (qd b D).2)]] = some (.tup [.agg [.v (.int .i64 (qd (a - b) D).1), .v (.int .i64 (qd (a - b) D).2)], .v (.bool true)]) := by
  have := mMinus_at (qd a D).1 (qd a D).2 (qd b D).1 (qd b D).2 (qd_ok hD (by omega) (by omega))
  rw [show subF ((qd a D).1, (qd a D).2) ((qd b D).1, (qd b D).2) = (qd (a - b) D, true) from subF_qd hD (by omega) (by omega) (by omega) (by omega)] at this
  exact this
theorem lessQ (hD : 0 < D) (hD1 : D ≤ 100000) (ha : 0 ≤ a ∧ a ≤ 1000000) (hb : 0 ≤ b ∧ b ≤ 1000000) : mLessF [.agg [.v (.int .i64 (qd a D).1), .v (.int .i64 (qd a D).2)], .agg [.v (.int .i64 (qd b D).1), .v (.int .i64 (qd b D).2)]] = some (.v (.bool (decide (a < b)))) := by
  have := mLessF_at (qd a D).1 (qd a D).2 (qd b D).1 (qd b D).2
  rw [show cmpF ((qd a D).1, (qd a D).2) ((qd b D).1, (qd b D).2) = cmpI a b from cmpF_qd hD (by omega) (by omega) (by omega)] at this
  rw [this]
  have : decide (cmpI a b = -1) = decide (a < b) := by
    unfold cmpI
    by_cases h : a < b
    · simp [h]
    · by_cases h2 : b < a <;> simp [h, h2]
  rw [this]
theorem divQ {k T E : Int} (hD : 0 < D) (hD1 : D ≤ 100000) (ha : 0 ≤ a ∧ a ≤ 1000000) (hk : 0 < k ∧ k ≤ 4) (h : qd a (D * k) = qd T E) : mDivK [.agg [.v (.int .i64 (qd a D).1), .v (.int .i64 (qd a D).2)], .agg [.v (.int .i64 k), .v (.int .i64 1)]] = some (.tup [.agg [.v (.int .i64 (qd T E).1), .v (.int .i64 (qd T E).2)], .v (.bool true)]) := by
  have hb := mul_bd (x := D) (y := k) (m := 100000) (n := 4) (by omega) (by omega) (by omega) (by omega)
  have := mDivK_at (qd a D).1 (qd a D).2 k 1 ⟨qd_ok hD (by omega) (by omega), rfl, by omega, by omega⟩
  rw [show mkF (qd a D).1 ((qd a D).2 * k) = (qd T E, true) from by rw [divF_qd hD hk.1 (by omega) (by omega), h]] at this
  exact this
end
theorem stA_bd {xss : List (Bool × List Int)} {s : Es} (hR : Rd xss s) {A : List Int} : 0 ≤ A.foldl (stpF xss s) (12 * s.D) ∧ A.foldl (stpF xss s) (12 * s.D) ≤ 12 * s.D := by
  have hD := hR.D0
  refine ⟨?_, fold_le⟩
  have key : ∀ (A : List Int) (st : Int), 0 ≤ st → 0 ≤ A.foldl (stpF xss s) st := by
    intro A
    induction A with
    | nil => intro st h; exact h
    | cons a A ih =>
      intro st h
      simp only [List.foldl_cons]
      refine ih _ ?_
      unfold stpF
      split
      · have hb := (cn_bd (xss := xss) (s := s) (x := a.toNat) (k := xss.length)).1
        have := (hR.lb a.toNat).1
        unfold tmx
        exact Int.mul_nonneg (Int.ediv_nonneg (by omega) hb) this
      · exact h
  exact key A _ (by omega)
def eatB (xss : List (Bool × List Int)) : Bool := housesB xss && decide (xss.length ≠ 5)
def eatT (xss : List (Bool × List Int)) : List (Bool × List (Int × Int)) := if eatB xss = true then ft (es xss xss.length).D (es xss xss.length).out else []
noncomputable def mEat : List AV → Option AV := mk (fun _ => True) (fun (p : (Bool) × (List (Bool × List Int))) => [intss p.1 p.2]) (fun p => .tup [.sl (!eatB p.2) 1 ((eatT p.2).map frow), .v (.bool (eatB p.2))])
theorem mEat_at (nl : Bool) (xss : List (Bool × List Int)) : mEat [.sl nl 1 (xss.map row)] = some (.tup [.sl (!eatB xss) 1 ((eatT xss).map frow), .v (.bool (eatB xss))]) :=
  mk_eq (enc := fun (p : (Bool) × (List (Bool × List Int))) => [intss p.1 p.2]) (x := (nl, xss)) (by rintro ⟨a0, a1⟩ ⟨b0, b1⟩ h; simp [ints, intss, int, bool, row, frac, fracs, map_int_inj, map_row_inj, frac_inj, map_frac_inj] at h; simp [h]) trivial
noncomputable def mEaten : List AV → Option AV := mk (fun p => housesB p.2 = true ∧ p.2.length ≠ 5) (fun (p : (Bool) × (List (Bool × List Int))) => [intss p.1 p.2]) (fun p => .tup [.sl false 1 ((ft (es p.2 p.2.length).D (es p.2 p.2.length).out).map frow), .v (.bool true)])
theorem mEaten_at (nl : Bool) (xss : List (Bool × List Int)) (hpre : housesB xss = true ∧ xss.length ≠ 5) : mEaten [.sl nl 1 (xss.map row)] = some (.tup [.sl false 1 ((ft (es xss xss.length).D (es xss xss.length).out).map frow), .v (.bool true)]) :=
  mk_eq (enc := fun (p : (Bool) × (List (Bool × List Int))) => [intss p.1 p.2]) (x := (nl, xss)) (by rintro ⟨a0, a1⟩ ⟨b0, b1⟩ h; simp [ints, intss, int, bool, row, frac, fracs, map_int_inj, map_row_inj, frac_inj, map_frac_inj] at h; simp [h]) hpre
set_option maxRecDepth 8000 in
set_option maxHeartbeats 4000000 in
theorem eaten_ok : FnOk Tryz.prog 95 mEaten := by
  refine mk_ok fun ⟨nl, xss⟩ hp => ?_
  obtain ⟨hh, h5⟩ := hp
  simp only at hh h5
  have h := hs_of hh h5
  have hn4 := h.n4
  have hn1 := h.n1
  have hG : FnsOk Tryz.prog [(172, mWhole), (171, mRepeatF), (168, mFstL), (173, mDivK), (113, mLessF), (174, mAdd), (109, mMinus)] := (.cons whole_ok (.cons repeatF_ok (.cons firstOfLeft_ok (.cons implDivK_ok (.cons less_ok (.cons implAdd_ok (.cons minus_ok .nil)))))))
  refine callOk_awp (ctx_ok eqOk hG) mixed (live := [true, false, true, true, true, true, true, true, true, true, true, true, false, true, true, false, true, true, true, true, true, true, true, true, true, true, false, false, false, false, false, false, false, false, false, true, true, true, false, false, false, false, false, false, false, false, false, true, true, true, true, false, false, false, false, false, true, false, false, false, false, false, false, false, true, false, false, false, true, true, true, true, false, false, false, false, false, false, false, false, false, false, false, false, true, true, true, true, false, false, false, false, false, false, true, false, false, false, false, false, false, false, false, false, false, false, false, false, false, false, false, false, false, true, false, false, true, true, true, true, false, false, false, false, false, false, false, false, false, false, false, false, false, false, false, false, false, false, false, false, false, false, false, false, false, false, false, false, false, false, false, false, true]) (dt := [(29, ⟨[(12, 14)], [0, 0, 0, 0, 0, 0, 0, 0, 0, 0, 0, 0, 0, 1], []⟩), (37, ⟨[(11, 13)], [0, 0, 0, 0, 0, 0, 0, 0, 0, 0, 0, 0, 1], []⟩), (38, ⟨[(8, 10)], [0, 0, 0, 0, 0, 0, 0, 0, 0, 1], []⟩), (41, ⟨[(8, 10)], [], []⟩)]) Tryz.func95 rfl (by kernel_rfl) (by kernel_rfl) fun w0 hlens => ?_
  clear hlens
  have hb : 8 * xss.length ≤ 281474976710656 ∧ xss.length ≤ 4611686018427387904 ∧ xss.length ≤ 281474976710656 ∧ 24 * xss.length ≤ 281474976710656 ∧ xss.length ≤ 1000 := by omega
  have hrp1 := mRepeatF_at false (1, 1) xss.length (by omega)
  have hrp0 := mRepeatF_at false (0, 1) xss.length (by omega)
  have hz0 : List.replicate xss.length (AV.sl true 1 []) = zT xss.length 0 := by simp [zT]
  have hz1 : List.replicate xss.length (AV.agg [AV.v (.int .i64 1), AV.v (.int .i64 1)]) = (fl (es xss 0).D (es xss 0).lf).map frac := by
    rw [show (es xss 0).D = 1 from rfl, show (es xss 0).lf = List.replicate xss.length 1 from rfl, fl_one]; simp [frac]
  have hz2 : zT xss.length xss.length = (ft (es xss 0).D (es xss 0).out).map frow := by
    rw [show (es xss 0).D = 1 from rfl, show (es xss 0).out = List.replicate xss.length (List.replicate xss.length 0) from rfl, ft_zero]; simp [zT]
  have hst : (xss.length : Int) = xss.length := rfl
  simp (config := {contextual := true}) [Tryz.f95, List.range, List.range.loop, ints, intss, int, bool, row, frac, fracs, ← List.map_take, ← List.map_drop, mWhole_at, hrp1, hrp0, hb]
  refine awp_range (live := [true, false, true, true, true, true, true, true, true, true, true, true, false, true, true, false, true, true, true, true, true, true, true, true, true, true, false, false, false, false, false, false, false, false, false, true, true, true, false, false, false, false, false, false, false, false, false, true, true, true, true, false, false, false, false, false, true, false, false, false, false, false, false, false, true, false, false, false, true, true, true, true, false, false, false, false, false, false, false, false, false, false, false, false, true, true, true, true, false, false, false, false, false, false, true, false, false, false, false, false, false, false, false, false, false, false, false, false, false, false, false, false, false, true, false, false, true, true, true, true, false, false, false, false, false, false, false, false, false, false, false, false, false, false, false, false, false, false, false, false, false, false, false, false, false, false, false, false, false, false, false, false, true]) (ctx_ok eqOk hG) mixed [true, false, false, false, true, true, true, false, false, false, false, false, false, false, false, false, false, false, false, false, false, false, false, false, false, false, false, false, false, false, false, false, false, false, false, true, true] (xss.length) (fun k => True) (fun k => ⟨[intss nl xss, .junk, .junk, .junk, int xss.length, .ref 0 [] 0 xss.length, .ref 1 [] 0 xss.length, .junk, .junk, .junk, .junk, .junk, .junk, .junk, .junk, .junk, .junk, .junk, .junk, .junk, .junk, .junk, .junk, .junk, .junk, .junk, .junk, .junk, .junk, .junk, .junk, .junk, .junk, .junk, .junk, int xss.length, int k, .junk, .junk, .junk, .junk, .junk, .junk, .junk, .junk, .junk, .junk, .junk, .junk, .junk, .junk, .junk, .junk, .junk, .junk, .junk, .junk, .junk, .junk, .junk, .junk, .junk, .junk, .junk, .junk, .junk, .junk, .junk, .junk, .junk, .junk, .junk, .junk, .junk, .junk, .junk, .junk, .junk, .junk, .junk, .junk, .junk, .junk, .junk, .junk, .junk, .junk, .junk, .junk, .junk, .junk, .junk, .junk, .junk, .junk, .junk, .junk, .junk, .junk, .junk, .junk, .junk, .junk, .junk, .junk, .junk, .junk, .junk, .junk, .junk, .junk, .junk, .junk, .junk, .junk, .junk, .junk, .junk, .junk, .junk, .junk, .junk, .junk, .junk, .junk, .junk, .junk, .junk, .junk, .junk, .junk, .junk, .junk, .junk, .junk, .junk, .junk, .junk, .junk, .junk, .junk, .junk, .junk, .junk, .junk, .junk, .junk, .junk, .junk, .junk, .junk, .junk, .junk, .junk, .junk, .junk, .junk, .junk, .junk, .junk, .junk, .junk, .junk, .junk, .junk], [⟨true, .sl false 2 ((fl (es xss 0).D (es xss 0).lf).map frac)⟩, ⟨true, .sl false 1 (zT xss.length k)⟩]⟩) ?_ (by simp [sub, slotsLe, clean, keep, refsL, refs, once, place, renL, ren, List.replicate, int, bool, hz0, hz1, intss]) ?_ ?_ ?_
  · omega
  · trivial
  · intro k hk _ hwk
    have hzl := zT_len (n := xss.length) (k := k) (by omega)
    have hzs := zT_set hk
    have hzk : (zT xss.length k)[k]'(by omega) = .sl true 1 [] := by
      simp [zT, List.getElem_append]
    simp only [List.map_replicate, frac] at hzs
    simp (config := {contextual := true}) [List.range, List.range.loop, ints, intss, int, bool, row, frac, fracs, ← List.map_take, ← List.map_drop, mWhole_at, hrp1, hrp0, hb, hk, hwk, hzl, hzk, hzs]
    done
  · intro _
    simp (config := {contextual := true}) [List.range, List.range.loop, ints, intss, int, bool, row, frac, fracs, ← List.map_take, ← List.map_drop, hz2]
    refine awp_loop_of (live := [true, false, true, true, true, true, true, true, true, true, true, true, false, true, true, false, true, true, true, true, true, true, true, true, true, true, false, false, false, false, false, false, false, false, false, true, true, true, false, false, false, false, false, false, false, false, false, true, true, true, true, false, false, false, false, false, true, false, false, false, false, false, false, false, true, false, false, false, true, true, true, true, false, false, false, false, false, false, false, false, false, false, false, false, true, true, true, true, false, false, false, false, false, false, true, false, false, false, false, false, false, false, false, false, false, false, false, false, false, false, false, false, false, true, false, false, true, true, true, true, false, false, false, false, false, false, false, false, false, false, false, false, false, false, false, false, false, false, false, false, false, false, false, false, false, false, false, false, false, false, false, false, true]) (ctx_ok eqOk hG) mixed [true, false, false, false, true, true, true] (α := {r : Nat // r ≤ xss.length}) (fun r => ⟨[intss nl xss, .junk, .junk, .junk, int xss.length, .ref 0 [] 0 xss.length, .ref 1 [] 0 xss.length, .junk, .junk, .junk, .junk, .junk, .junk, .junk, .junk, .junk, .junk, .junk, .junk, .junk, .junk, .junk, .junk, .junk, .junk, .junk, .junk, .junk, .junk, .junk, .junk, .junk, .junk, .junk, .junk, .junk, .junk, .junk, .junk, .junk, .junk, .junk, .junk, .junk, .junk, .junk, .junk, .junk, .junk, .junk, .junk, .junk, .junk, .junk, .junk, .junk, .junk, .junk, .junk, .junk, .junk, .junk, .junk, .junk, .junk, .junk, .junk, .junk, .junk, .junk, .junk, .junk, .junk, .junk, .junk, .junk, .junk, .junk, .junk, .junk, .junk, .junk, .junk, .junk, .junk, .junk, .junk, .junk, .junk, .junk, .junk, .junk, .junk, .junk, .junk, .junk, .junk, .junk, .junk, .junk, .junk, .junk, .junk, .junk, .junk, .junk, .junk, .junk, .junk, .junk, .junk, .junk, .junk, .junk, .junk, .junk, .junk, .junk, .junk, .junk, .junk, .junk, .junk, .junk, .junk, .junk, .junk, .junk, .junk, .junk, .junk, .junk, .junk, .junk, .junk, .junk, .junk, .junk, .junk, .junk, .junk, .junk, .junk, .junk, .junk, .junk, .junk, .junk, .junk, .junk, .junk, .junk, .junk, .junk, .junk, .junk, .junk, .junk, .junk, .junk, .junk, .junk, .junk, .junk, .junk], [⟨true, .sl false 2 ((fl (es xss r.1).D (es xss r.1).lf).map frac)⟩, ⟨true, .sl false 1 ((ft (es xss r.1).D (es xss r.1).out).map frow)⟩]⟩) (fun r => xss.length - r.1) ⟨0, by omega⟩ (by simp [sub, slotsLe, clean, keep, refsL, refs, once, place, renL, ren, List.replicate, int, bool, intss]) ?_
    rintro ⟨r, hr⟩
    obtain ⟨hD0, hl, hol⟩ := es_lens h r
    have hend0 : opn (es xss r) = [] → es xss xss.length = es xss r := fun ho => es_stay ho _ hr
    have hR0 := rd_es h (r := r)
    have hlt : opn (es xss r) ≠ [] → r < xss.length := fun ho => by
      rcases Nat.lt_or_ge r xss.length with h1 | h1
      · exact h1
      · exact absurd (by rw [show r = xss.length by omega]; exact es_end h) ho
    have hnext : opn (es xss r) ≠ [] → es xss (r + 1) = rndE xss (es xss r) := fun ho => if_neg ho
    simp only
    generalize es xss r = s at *
    have hfl : (fl s.D s.lf).length = xss.length := by rw [fl_len, hl]
    have hft : (ft s.D s.out).length = xss.length := by rw [ft_len, hol]
    simp (config := {contextual := true}) [List.range, List.range.loop, ints, intss, int, bool, row, frac, fracs, ← List.map_take, ← List.map_drop, hb, hfl, hft]
    refine awp_range (live := [true, false, true, true, true, true, true, true, true, true, true, true, false, true, true, false, true, true, true, true, true, true, true, true, true, true, false, false, false, false, false, false, false, false, false, true, true, true, false, false, false, false, false, false, false, false, false, true, true, true, true, false, false, false, false, false, true, false, false, false, false, false, false, false, true, false, false, false, true, true, true, true, false, false, false, false, false, false, false, false, false, false, false, false, true, true, true, true, false, false, false, false, false, false, true, false, false, false, false, false, false, false, false, false, false, false, false, false, false, false, false, false, false, true, false, false, true, true, true, true, false, false, false, false, false, false, false, false, false, false, false, false, false, false, false, false, false, false, false, false, false, false, false, false, false, false, false, false, false, false, false, false, true]) (ctx_ok eqOk hG) mixed [true, false, false, false, true, true, true, false, true, false, false, false, false, false, false, false, false, false, false, false, false, false, false, false, false, false, false, false, false, false, false, false, false, false, false, false, false, false, false, false, false, false, false, false, false, false, false, true, true, true] (xss.length) (fun x => True) (fun x => ⟨[intss nl xss, .junk, .junk, .junk, int xss.length, .ref 0 [] 0 xss.length, .ref 1 [] 0 xss.length, .junk, opA (selTo (fun x => decide (0 < at0 s.lf x)) x), .junk, .junk, .junk, .junk, .junk, .junk, .junk, .junk, .junk, .junk, .junk, .junk, .junk, .junk, .junk, .junk, .junk, .junk, .junk, .junk, .junk, .junk, .junk, .junk, .junk, .junk, .junk, .junk, .junk, .junk, .junk, .junk, .junk, .junk, .junk, .junk, .junk, .junk, .ref 0 [] 0 xss.length, int xss.length, int x, .junk, .junk, .junk, .junk, .junk, .junk, .junk, .junk, .junk, .junk, .junk, .junk, .junk, .junk, .junk, .junk, .junk, .junk, .junk, .junk, .junk, .junk, .junk, .junk, .junk, .junk, .junk, .junk, .junk, .junk, .junk, .junk, .junk, .junk, .junk, .junk, .junk, .junk, .junk, .junk, .junk, .junk, .junk, .junk, .junk, .junk, .junk, .junk, .junk, .junk, .junk, .junk, .junk, .junk, .junk, .junk, .junk, .junk, .junk, .junk, .junk, .junk, .junk, .junk, .junk, .junk, .junk, .junk, .junk, .junk, .junk, .junk, .junk, .junk, .junk, .junk, .junk, .junk, .junk, .junk, .junk, .junk, .junk, .junk, .junk, .junk, .junk, .junk, .junk, .junk, .junk, .junk, .junk, .junk, .junk, .junk, .junk, .junk, .junk, .junk, .junk, .junk, .junk, .junk, .junk, .junk, .junk, .junk, .junk, .junk, .junk, .junk, .junk, .junk, .junk], ⟨true, .sl false 2 ((fl s.D s.lf).map frac)⟩ :: ⟨true, .sl false 1 ((ft s.D s.out).map frow)⟩ :: opT (selTo (fun x => decide (0 < at0 s.lf x)) x)⟩) ?_ (by simp [sub, slotsLe, clean, keep, refsL, refs, once, place, renL, ren, List.replicate, int, bool, intss, opA, opT, selTo_zero]) ?_ ?_ ?_
    · omega
    · trivial
    · intro x hx _ hwx
      have hxl : x < (fl s.D s.lf).length := by omega
      have g1 := fl_get hxl
      have hp := qd_pos (a := at0 s.lf x) hD0
      have hsl := selTo_len (p := fun x => decide (0 < at0 s.lf x)) (k := x)
      have hy := selTo_yes (p := fun x => decide (0 < at0 s.lf x)) (k := x)
      have hno := selTo_no (p := fun x => decide (0 < at0 s.lf x)) (k := x)
      by_cases hc : 0 < at0 s.lf x
      · have hc' := hp.2 hc
        rw [hy (by simpa using hc)]
        generalize selTo (fun x => decide (0 < at0 s.lf x)) x = L at *
        cases L with
        | nil =>
          simp (config := {contextual := true}) [List.range, List.range.loop, ints, intss, int, bool, row, frac, fracs, ← List.map_take, ← List.map_drop, hx, hfl, hft, g1, hc', hwx, opA, opT]
          done
        | cons a L =>
          simp only [List.length_cons] at hsl
          have hb2 : L.length + 1 ≤ 4611686018427387903 ∧ L.length + 1 + 1 ≤ 4611686018427387904 ∧ (L.length + 1 + 1) * 8 ≤ 140737488355328 := by omega
          simp (config := {contextual := true}) [List.range, List.range.loop, ints, intss, int, bool, row, frac, fracs, ← List.map_take, ← List.map_drop, hx, hfl, hft, g1, hc', hwx, opA, opT, hb2]
          done
      · have hc' : ¬ 0 < (qd (at0 s.lf x) s.D).1 := fun h => hc (hp.1 h)
        rw [hno (by simpa using hc)]
        generalize selTo (fun x => decide (0 < at0 s.lf x)) x = L at *
        cases L with
        | nil =>
          simp (config := {contextual := true}) [List.range, List.range.loop, ints, intss, int, bool, row, frac, fracs, ← List.map_take, ← List.map_drop, hx, hfl, hft, g1, hc', hwx, opA, opT]
          done
        | cons a L =>
          simp (config := {contextual := true}) [List.range, List.range.loop, ints, intss, int, bool, row, frac, fracs, ← List.map_take, ← List.map_drop, hx, hfl, hft, g1, hc', hwx, opA, opT]
          done
    · intro _
      have ho : selTo (fun x => decide (0 < at0 s.lf x)) xss.length = opn s := by unfold opn; rw [hl]
      rw [ho]
      have hopl : (opn s).length ≤ xss.length := by rw [← ho]; exact selTo_len
      cases hop : opn s with
      | nil =>
        have hend := hend0 hop
        simp (config := {contextual := true}) [List.range, List.range.loop, ints, intss, int, bool, row, frac, fracs, ← List.map_take, ← List.map_drop, opA, opT, hend, hft]
        done
      | cons a L =>
        have hne : opn s ≠ [] := by rw [hop]; simp
        have hR := hR0 hne
        have hr1 := hlt hne
        have hnx := hnext hne
        have hmem : ∀ y ∈ (a :: L), ∃ j : Nat, y = j ∧ j < xss.length ∧ 0 < at0 s.lf j := fun y hy => by
          rw [← hop] at hy
          obtain ⟨j, e1, e2, e3⟩ := opn_mem.1 hy
          exact ⟨j, e1, by omega, e3⟩
        have hfst : ∀ i (hi : i < xss.length), ∃ x : Nat, mFstL [.sl xss[i].1 1 (xss[i].2.map int), .sl false 1 ((a :: L).map int)] = some (.v (.int .i64 (x : Int))) ∧ hxi xss s i = x ∧ x < xss.length := fun i hi => by
          obtain ⟨x, f1, f2, f3, _⟩ := fst_open h hR hi
          rw [hop] at f1
          exact ⟨x, mFstL_at xss[i].1 xss[i].2 false (a :: L) (x : Int) f1, f2, f3⟩
        have hstL : stp xss s = (a :: L).foldl (stpF xss s) (12 * s.D) := by rw [stp_open h hR, hop]
        have hD1 := hR.D1
        have hst0 := hR.st0
        have hst1 := hR.st1
        rw [hop] at hopl
        have hez : List.replicate xss.length (.v (.int .i64 0)) = (etr xss s 0).map int := by rw [etr_zero]; simp [int]
        have hLn : (a :: L).length = L.length + 1 := rfl
        have hoA : opA (a :: L) = .ref 2 [] 0 (L.length + 1) := rfl
        have hoT : opT (a :: L) = [⟨true, .sl false 1 ((a :: L).map int)⟩] := rfl
        generalize hA : (a :: L) = A at *
        simp (config := {contextual := true}) [List.range, List.range.loop, ints, intss, int, bool, row, frac, fracs, ← List.map_take, ← List.map_drop, hoA, hoT, hb, hLn]
        refine awp_range (live := [true, false, true, true, true, true, true, true, true, true, true, true, false, true, true, false, true, true, true, true, true, true, true, true, true, true, false, false, false, false, false, false, false, false, false, true, true, true, false, false, false, false, false, false, false, false, false, true, true, true, true, false, false, false, false, false, true, false, false, false, false, false, false, false, true, false, false, false, true, true, true, true, false, false, false, false, false, false, false, false, false, false, false, false, true, true, true, true, false, false, false, false, false, false, true, false, false, false, false, false, false, false, false, false, false, false, false, false, false, false, false, false, false, true, false, false, true, true, true, true, false, false, false, false, false, false, false, false, false, false, false, false, false, false, false, false, false, false, false, false, false, false, false, false, false, false, false, false, false, false, false, false, true]) (ctx_ok eqOk hG) mixed [true, false, false, false, true, true, true, false, true, false, false, true, false, false, false, false, false, false, false, false, false, false, false, false, false, false, false, false, false, false, false, false, false, false, false, false, false, false, false, false, false, false, false, false, false, false, false, false, false, false, false, false, false, false, false, false, false, false, false, false, false, false, false, false, false, false, false, false, true, true, true] (xss.length) (fun i => True) (fun i => ⟨[intss nl xss, .junk, .junk, .junk, int xss.length, .ref 0 [] 0 xss.length, .ref 1 [] 0 xss.length, .junk, .ref 2 [] 0 (L.length + 1), .junk, .junk, .ref 3 [] 0 xss.length, .junk, .junk, .junk, .junk, .junk, .junk, .junk, .junk, .junk, .junk, .junk, .junk, .junk, .junk, .junk, .junk, .junk, .junk, .junk, .junk, .junk, .junk, .junk, .junk, .junk, .junk, .junk, .junk, .junk, .junk, .junk, .junk, .junk, .junk, .junk, .junk, .junk, .junk, .junk, .junk, .junk, .junk, .junk, .junk, .junk, .junk, .junk, .junk, .junk, .junk, .junk, .junk, .junk, .junk, .junk, .junk, intss nl xss, int xss.length, int i, .junk, .junk, .junk, .junk, .junk, .junk, .junk, .junk, .junk, .junk, .junk, .junk, .junk, .junk, .junk, .junk, .junk, .junk, .junk, .junk, .junk, .junk, .junk, .junk, .junk, .junk, .junk, .junk, .junk, .junk, .junk, .junk, .junk, .junk, .junk, .junk, .junk, .junk, .junk, .junk, .junk, .junk, .junk, .junk, .junk, .junk, .junk, .junk, .junk, .junk, .junk, .junk, .junk, .junk, .junk, .junk, .junk, .junk, .junk, .junk, .junk, .junk, .junk, .junk, .junk, .junk, .junk, .junk, .junk, .junk, .junk, .junk, .junk, .junk, .junk, .junk, .junk, .junk, .junk, .junk, .junk, .junk, .junk, .junk, .junk, .junk, .junk, .junk, .junk, .junk, .junk, .junk, .junk, .junk], [⟨true, .sl false 2 ((fl s.D s.lf).map frac)⟩, ⟨true, .sl false 1 ((ft s.D s.out).map frow)⟩, ⟨true, .sl false 1 (A.map int)⟩, ⟨true, .sl false 1 ((etr xss s i).map int)⟩]⟩) ?_ (by simp [sub, slotsLe, clean, keep, refsL, refs, once, place, renL, ren, List.replicate, int, bool, intss, hez]) ?_ ?_ ?_
        · omega
        · trivial
        · intro i hi _ hwi
          obtain ⟨x, f1, f2, f3⟩ := hfst i hi
          have hel := etr_len (xss := xss) (s := s) (k := i)
          have hxe : x < (etr xss s i).length := by omega
          have hg := etr_get hxe
          have hes := etr_set (xss := xss) (s := s) (k := i) (by omega)
          rw [f2] at hes
          have hcb := cn_bd (xss := xss) (s := s) (x := x) (k := i)
          have hwc : IntKind.i64.wrap (cn xss s x i + 1) = cn xss s x i + 1 := wrapI (by omega) (by omega)
          have hset : ((etr xss s i).map int).set x (.v (.int .i64 (cn xss s x i + 1))) = (etr xss s (i + 1)).map int := by rw [← hes, List.map_set]; rfl
          have htk : A.take (L.length + 1) = A := List.take_of_length_le (by omega)
          simp (config := {contextual := true}) [List.range, List.range.loop, ints, intss, int, bool, row, frac, fracs, ← List.map_take, ← List.map_drop, hi, hfl, hft, f1, f3, hel, hxe, hg, hwc, hset, hLn, htk, hwi]
          done
        · intro _
          have hoD : (fl s.D s.lf) = fl s.D s.lf := rfl
          have hq1 : ((1 : Int), (1 : Int)) = qd (12 * s.D) (12 * s.D) := (qd_one (by omega)).symm
          have hs0 : [AV.agg [.v (.int .i64 1), .v (.int .i64 1)]] = [frac (qd ((A.take 0).foldl (stpF xss s) (12 * s.D)) (12 * s.D))] := by
            rw [List.take_zero, List.foldl_nil, ← hq1]; rfl
          simp (config := {contextual := true}) [List.range, List.range.loop, ints, intss, int, bool, row, frac, fracs, ← List.map_take, ← List.map_drop, mWhole_at, hLn]
          refine awp_range (live := [true, false, true, true, true, true, true, true, true, true, true, true, false, true, true, false, true, true, true, true, true, true, true, true, true, true, false, false, false, false, false, false, false, false, false, true, true, true, false, false, false, false, false, false, false, false, false, true, true, true, true, false, false, false, false, false, true, false, false, false, false, false, false, false, true, false, false, false, true, true, true, true, false, false, false, false, false, false, false, false, false, false, false, false, true, true, true, true, false, false, false, false, false, false, true, false, false, false, false, false, false, false, false, false, false, false, false, false, false, false, false, false, false, true, false, false, true, true, true, true, false, false, false, false, false, false, false, false, false, false, false, false, false, false, false, false, false, false, false, false, false, false, false, false, false, false, false, false, false, false, false, false, true]) (ctx_ok eqOk hG) mixed [true, false, false, false, true, true, true, false, true, false, false, true, false, false, true, false, false, false, false, false, false, false, false, false, false, false, false, false, false, false, false, false, false, false, false, false, false, false, false, false, false, false, false, false, false, false, false, false, false, false, false, false, false, false, false, false, false, false, false, false, false, false, false, false, false, false, false, false, false, false, false, false, false, false, false, false, false, false, false, false, false, false, false, false, true, true, true] (L.length + 1) (fun k => True) (fun k => ⟨[intss nl xss, .junk, .junk, .junk, int xss.length, .ref 0 [] 0 xss.length, .ref 1 [] 0 xss.length, .junk, .ref 2 [] 0 (L.length + 1), .junk, .junk, .ref 3 [] 0 xss.length, .junk, .junk, .ptr 4 [] 0 0, .junk, .junk, .junk, .junk, .junk, .junk, .junk, .junk, .junk, .junk, .junk, .junk, .junk, .junk, .junk, .junk, .junk, .junk, .junk, .junk, .junk, .junk, .junk, .junk, .junk, .junk, .junk, .junk, .junk, .junk, .junk, .junk, .junk, .junk, .junk, .junk, .junk, .junk, .junk, .junk, .junk, .junk, .junk, .junk, .junk, .junk, .junk, .junk, .junk, .junk, .junk, .junk, .junk, .junk, .junk, .junk, .junk, .junk, .junk, .junk, .junk, .junk, .junk, .junk, .junk, .junk, .junk, .junk, .junk, .ref 2 [] 0 (L.length + 1), int (L.length + 1 : Nat), int k, .junk, .junk, .junk, .junk, .junk, .junk, .junk, .junk, .junk, .junk, .junk, .junk, .junk, .junk, .junk, .junk, .junk, .junk, .junk, .junk, .junk, .junk, .junk, .junk, .junk, .junk, .junk, .junk, .junk, .junk, .junk, .junk, .junk, .junk, .junk, .junk, .junk, .junk, .junk, .junk, .junk, .junk, .junk, .junk, .junk, .junk, .junk, .junk, .junk, .junk, .junk, .junk, .junk, .junk, .junk, .junk, .junk, .junk, .junk, .junk, .junk, .junk, .junk, .junk, .junk, .junk, .junk, .junk, .junk, .junk, .junk, .junk, .junk, .junk, .junk, .junk, .junk, .junk], [⟨true, .sl false 2 ((fl s.D s.lf).map frac)⟩, ⟨true, .sl false 1 ((ft s.D s.out).map frow)⟩, ⟨true, .sl false 1 (A.map int)⟩, ⟨true, .sl false 1 ((etr xss s xss.length).map int)⟩, ⟨true, .sl false 2 [frac (qd ((A.take k).foldl (stpF xss s) (12 * s.D)) (12 * s.D))]⟩]⟩) ?_ (by simp [sub, slotsLe, clean, keep, refsL, refs, once, place, renL, ren, List.replicate, int, bool, intss, hs0]) ?_ ?_ ?_
          · omega
          · trivial
          · intro k hk _ hwk
            have hkA : k < A.length := by omega
            have hkI : (k : Int) < (L.length : Int) + 1 := by omega
            obtain ⟨j, f1, f2, f3⟩ := hmem _ (List.getElem_mem hkA)
            have hel := etr_len (xss := xss) (s := s) (k := xss.length)
            have hje : j < (etr xss s xss.length).length := by omega
            have hjl : j < (fl s.D s.lf).length := by omega
            have g1 := etr_get hje
            have g2 := fl_get hjl
            have hcb := cn_bd (xss := xss) (s := s) (x := j) (k := xss.length)
            have hfo : (A.take (k + 1)).foldl (stpF xss s) (12 * s.D) = stpF xss s ((A.take k).foldl (stpF xss s) (12 * s.D)) (j : Int) := by
              rw [List.take_succ_eq_append_getElem hkA, List.foldl_append, f1]; rfl
            have hsb := stA_bd hR (A := A.take k)
            rw [hfo]
            generalize (A.take k).foldl (stpF xss s) (12 * s.D) = st at *
            by_cases hc0 : cn xss s j xss.length = 0
            · have hsf : stpF xss s st (j : Int) = st := by
                unfold stpF; rw [if_neg (by rw [Int.toNat_natCast]; omega)]
              simp (config := {contextual := true}) [List.range, List.range.loop, ints, intss, int, bool, row, frac, fracs, ← List.map_take, ← List.map_drop, hk, hkI, hkA, f1, f2, hLn, hel, hje, g1, hc0, hsf, hwk]
              done
            · have hcp : 0 < cn xss s j xss.length := by omega
              obtain ⟨t1, t2, t3⟩ := tm_qd h hR hcp
              have hlb := hR.lb j
              have hdv := divQ (a := at0 s.lf j) (D := s.D) (k := cn xss s j xss.length) hD0 (by omega) (by omega) (by omega) t1
              have hls := lessQ (a := tmx xss s j) (b := st) (D := 12 * s.D) (by omega) (by omega) (by omega) (by omega)
              have hsf : stpF xss s st (j : Int) = if tmx xss s j < st then tmx xss s j else st := by
                unfold stpF; rw [Int.toNat_natCast]; simp [hcp]
              rw [hsf]
              by_cases hlt : tmx xss s j < st
              · simp (config := {contextual := true, maxSteps := 1000000}) [List.range, List.range.loop, ints, intss, int, bool, row, frac, fracs, ← List.map_take, ← List.map_drop, mWhole_at, hk, hkI, hkA, f1, f2, hLn, hel, hje, hjl, hfl, g1, g2, hc0, hdv, hls, hlt, hwk]
                done
              · simp (config := {contextual := true, maxSteps := 1000000}) [List.range, List.range.loop, ints, intss, int, bool, row, frac, fracs, ← List.map_take, ← List.map_drop, mWhole_at, hk, hkI, hkA, f1, f2, hLn, hel, hje, hjl, hfl, g1, g2, hc0, hdv, hls, hlt, hwk]
                done
          · intro _
            have hstt : (A.take (L.length + 1)).foldl (stpF xss s) (12 * s.D) = stp xss s := by rw [List.take_of_length_le (by omega), hstL]
            rw [hstt]
            have e1 : fl s.D s.lf = fl (12 * s.D) (el xss s 0) := fl_up.symm
            have e2 : ft s.D s.out = ft (12 * s.D) (eo xss s 0) := ft_up.symm
            simp (config := {contextual := true}) [List.range, List.range.loop, ints, intss, int, bool, row, frac, fracs, ← List.map_take, ← List.map_drop]
            refine awp_range (live := [true, false, true, true, true, true, true, true, true, true, true, true, false, true, true, false, true, true, true, true, true, true, true, true, true, true, false, false, false, false, false, false, false, false, false, true, true, true, false, false, false, false, false, false, false, false, false, true, true, true, true, false, false, false, false, false, true, false, false, false, false, false, false, false, true, false, false, false, true, true, true, true, false, false, false, false, false, false, false, false, false, false, false, false, true, true, true, true, false, false, false, false, false, false, true, false, false, false, false, false, false, false, false, false, false, false, false, false, false, false, false, false, false, true, false, false, true, true, true, true, false, false, false, false, false, false, false, false, false, false, false, false, false, false, false, false, false, false, false, false, false, false, false, false, false, false, false, false, false, false, false, false, true]) (ctx_ok eqOk hG) mixed [true, false, false, false, true, true, true, false, true, false, false, false, false, false, true, false, false, false, false, false, false, false, false, false, false, false, false, false, false, false, false, false, false, false, false, false, false, false, false, false, false, false, false, false, false, false, false, false, false, false, false, false, false, false, false, false, false, false, false, false, false, false, false, false, false, false, false, false, false, false, false, false, false, false, false, false, false, false, false, false, false, false, false, false, false, false, false, false, false, false, false, false, false, false, false, false, false, false, false, false, false, false, false, false, false, false, false, false, false, false, false, false, false, false, false, false, true, true, true] (xss.length) (fun i => True) (fun i => ⟨[intss nl xss, .junk, .junk, .junk, int xss.length, .ref 0 [] 0 xss.length, .ref 1 [] 0 xss.length, .junk, .ref 2 [] 0 (L.length + 1), .junk, .junk, .junk, .junk, .junk, .ptr 3 [] 0 0, .junk, .junk, .junk, .junk, .junk, .junk, .junk, .junk, .junk, .junk, .junk, .junk, .junk, .junk, .junk, .junk, .junk, .junk, .junk, .junk, .junk, .junk, .junk, .junk, .junk, .junk, .junk, .junk, .junk, .junk, .junk, .junk, .junk, .junk, .junk, .junk, .junk, .junk, .junk, .junk, .junk, .junk, .junk, .junk, .junk, .junk, .junk, .junk, .junk, .junk, .junk, .junk, .junk, .junk, .junk, .junk, .junk, .junk, .junk, .junk, .junk, .junk, .junk, .junk, .junk, .junk, .junk, .junk, .junk, .junk, .junk, .junk, .junk, .junk, .junk, .junk, .junk, .junk, .junk, .junk, .junk, .junk, .junk, .junk, .junk, .junk, .junk, .junk, .junk, .junk, .junk, .junk, .junk, .junk, .junk, .junk, .junk, .junk, .junk, .junk, .junk, intss nl xss, int xss.length, int i, .junk, .junk, .junk, .junk, .junk, .junk, .junk, .junk, .junk, .junk, .junk, .junk, .junk, .junk, .junk, .junk, .junk, .junk, .junk, .junk, .junk, .junk, .junk, .junk, .junk, .junk, .junk, .junk, .junk, .junk, .junk, .junk, .junk, .junk, .junk, .junk, .junk, .junk, .junk, .junk, .junk, .junk, .junk, .junk, .junk, .junk], [⟨true, .sl false 2 ((fl (12 * s.D) (el xss s i)).map frac)⟩, ⟨true, .sl false 1 ((ft (12 * s.D) (eo xss s i)).map frow)⟩, ⟨true, .sl false 1 (A.map int)⟩, ⟨true, .sl false 2 [frac (qd (stp xss s) (12 * s.D))]⟩]⟩) ?_ (by simp [sub, slotsLe, clean, keep, refsL, refs, once, place, renL, ren, List.replicate, int, bool, intss, e1, e2, frac]) ?_ ?_ ?_
            · omega
            · trivial
            · intro i hi _ hwi
              obtain ⟨x, f1, f2, f3⟩ := hfst i hi
              have htk : A.take (L.length + 1) = A := List.take_of_length_le (by omega)
              have n1 : (fl (12 * s.D) (el xss s i)).length = xss.length := by rw [fl_len, el_len, hl]
              have n2 : (ft (12 * s.D) (eo xss s i)).length = xss.length := by rw [ft_len, eo_len, hol]
              have hxl : x < (fl (12 * s.D) (el xss s i)).length := by omega
              have hio : i < (ft (12 * s.D) (eo xss s i)).length := by omega
              have n3 : (fl (12 * s.D) ((eo xss s i).getD i [])).length = xss.length := by rw [fl_len, eo_rlen hR hi]
              have hxr : x < (fl (12 * s.D) ((eo xss s i).getD i [])).length := by omega
              have g1 := fl_get hxl
              have g2 := ft_get hio
              have g3 := fl_get hxr
              have b1 := hR.el i (by omega) x
              have b2 := eo_bd hR hi (x := x)
              have b3 := hR.cn i hi
              rw [f2] at b3
              have hD12 : 0 < 12 * s.D ∧ 12 * s.D ≤ 100000 := by omega
              have hadd := addQ (a := at0 ((eo xss s i).getD i []) x) (b := stp xss s) (D := 12 * s.D) hD12.1 hD12.2 (by omega) (by omega)
              have hsub := subQ (a := at0 (el xss s i) x) (b := stp xss s) (D := 12 * s.D) hD12.1 hD12.2 (by omega) (by omega)
              have k1 := fl_set (D := 12 * s.D) (l := (eo xss s i).getD i []) (x := x) (a := at0 ((eo xss s i).getD i []) x + stp xss s)
              have k2 := ft_set (D := 12 * s.D) (t := eo xss s i) (i := i) (r := ((eo xss s i).getD i []).set x (at0 ((eo xss s i).getD i []) x + stp xss s))
              have k3 := fl_set (D := 12 * s.D) (l := el xss s i) (x := x) (a := at0 (el xss s i) x - stp xss s)
              have m1 : el xss s (i + 1) = (el xss s i).set x (at0 (el xss s i) x - stp xss s) := by rw [el, f2]
              have m2 : eo xss s (i + 1) = (eo xss s i).set i (((eo xss s i).getD i []).set x (at0 ((eo xss s i).getD i []) x + stp xss s)) := by rw [eo, f2]
              rw [m1, m2]
              generalize hrw : (eo xss s i).getD i [] = rw0 at *
              simp (config := {contextual := true, maxSteps := 1000000}) [List.range, List.range.loop, ints, intss, int, bool, row, frac, fracs, ← List.map_take, ← List.map_drop, frow, hi, htk, hLn, f1, f3, n1, n2, n3, hxl, hio, hxr, g1, g2, g3, hadd, hsub, k1, k2, k3, hwi]
              done
            · intro _
              have hrn : rndE xss s = ⟨12 * s.D, el xss s xss.length, eo xss s xss.length⟩ := rfl
              simp (config := {contextual := true}) [List.range, List.range.loop, ints, intss, int, bool, row, frac, fracs, ← List.map_take, ← List.map_drop]
              refine ⟨⟨r + 1, hr1⟩, ?_, by simp; omega⟩
              simp [sub, slotsLe, clean, keep, refsL, refs, once, place, renL, ren, List.replicate, int, bool, hnx, hrn, intss]
theorem implEatTogether_ok : FnOk Tryz.prog 28 mEat := by
  refine mk_ok fun ⟨nl, xss⟩ _ => ?_
  have hG : FnsOk Tryz.prog [(91, mHouses), (95, mEaten)] := (.cons implHouses_ok (.cons eaten_ok .nil))
  refine callOk_awp (ctx_ok eqOk hG) mixed (live := [true, false, true, true, false, false, false, false, false, false, false, true]) (dt := []) Tryz.func28 rfl (by kernel_rfl) (by kernel_rfl) fun w0 hlens => ?_
  clear hlens
  cases h1 : housesB xss with
  | false => simp (config := {contextual := true}) [Tryz.f28, List.range, List.range.loop, ints, intss, int, bool, row, frac, fracs, ← List.map_take, ← List.map_drop, mHouses_at, h1, eatB, eatT]
  | true =>
    by_cases h5 : (xss.length : Int) = 5
    · simp (config := {contextual := true}) [Tryz.f28, List.range, List.range.loop, ints, intss, int, bool, row, frac, fracs, ← List.map_take, ← List.map_drop, mHouses_at, h1, show xss.length = 5 by omega, eatB, eatT]
    · have hz := mEaten_at nl xss ⟨h1, by omega⟩
      simp (config := {contextual := true}) [Tryz.f28, List.range, List.range.loop, ints, intss, int, bool, row, frac, fracs, ← List.map_take, ← List.map_drop, mHouses_at, h1, show ¬ xss.length = 5 by omega, h5, hz, eatB, eatT]
end Go.Proofs.YtkfmhpgnhkdebaaGreatDoor.Ax
