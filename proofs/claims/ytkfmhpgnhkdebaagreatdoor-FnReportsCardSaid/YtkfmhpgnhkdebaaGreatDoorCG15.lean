/-
  Six words joined. Plain Lean, no program in sight.
-/
import Derived.Test.YtkfmhpgnhkdebaaGreatDoorCG14
import Derived.Test.YtkfmhpgnhkdebaaGreatDoorCG13
import Derived.Test.YtkfmhpgnhkdebaaGreatDoorCG8
import Derived.Test.YtkfmhpgnhkdebaaGreatDoorCB2
namespace Go.Proofs.YtkfmhpgnhkdebaaGreatDoor.Ax
open Go Go.RowKit
set_option linter.unusedSimpArgs false
theorem bl_inj {a b : ByteArray} (h : bl a = bl b) : a = b := by
  obtain ⟨⟨a⟩⟩ := a
  obtain ⟨⟨b⟩⟩ := b
  simp [bl] at h
  rw [h]
theorem bl_app {a b : ByteArray} : bl (a ++ b) = bl a ++ bl b := by
  simp [bl, ByteArray.data_append]
end Go.Proofs.YtkfmhpgnhkdebaaGreatDoor.Ax
namespace Go.Proofs.YtkfmhpgnhkdebaaGreatDoor.Ax
open Go Go.RowKit
set_option linter.unusedSimpArgs false
def byV (n : Int) : AV := .v (.int .u8 n)
def flT (l : List Int) : Nat → List Int
  | 0 => List.replicate l.length 0
  | k + 1 => (flT l k).set k (97 + at0 l k)
theorem flT_len {l : List Int} : ∀ {k : Nat}, (flT l k).length = l.length
  | 0 => by simp [flT]
  | k + 1 => by simp [flT, flT_len (l := l) (k := k)]
theorem flT_at {l : List Int} {i : Nat} (hi : i < l.length) : ∀ {k : Nat}, k ≤ l.length → (flT l k)[i]? = some (if i < k then 97 + l[i] else 0)
  | 0, _ => by simp [flT, hi]
  | k + 1, hk => by
    unfold flT
    by_cases e : k = i
    · subst e
      rw [List.getElem?_set_self (by rw [flT_len]; omega), at0_eq hi, if_pos (by omega)]
    · rw [List.getElem?_set_ne e, flT_at hi (k := k) (by omega)]
      by_cases h : i < k
      · rw [if_pos h, if_pos (by omega)]
      · rw [if_neg h, if_neg (by omega)]
theorem flT_all {l : List Int} : flT l l.length = l.map fun a => 97 + a := by
  apply List.ext_getElem?
  intro i
  by_cases hi : i < l.length
  · rw [flT_at hi (Nat.le_refl _), if_pos hi, List.getElem?_map, List.getElem?_eq_getElem hi]; rfl
  · rw [List.getElem?_eq_none (by rw [flT_len]; omega), List.getElem?_eq_none (by rw [List.length_map]; omega)]
def leB (a : Int) : UInt8 := UInt8.ofNat (97 + a).toNat
def frkS (l : List Int) : ByteArray := ⟨(l.map leB).toArray⟩
def frkT (l : List Int) : ByteArray := if rankB l.length l = true then frkS l else ⟨#[]⟩
theorem bytesOf_by : ∀ (ns : List Int), bytesOf (ns.map byV) = some (ns.map fun n => UInt8.ofNat n.toNat)
  | [] => rfl
  | n :: ns => by
    have ih := bytesOf_by ns
    rw [List.map_cons, byV, bytesOf, ih]
    rfl
noncomputable def mFrk : List AV → Option AV := mk (fun _ => True) (fun (p : (Bool) × (List Int)) => [ints p.1 p.2]) (fun p => .v (.string (frkT p.2)))
theorem mFrk_at (nl : Bool) (l : List Int) : mFrk [.sl nl 1 (l.map int)] = some (.v (.string (frkT l))) :=
  mk_eq (enc := fun (p : (Bool) × (List Int)) => [ints p.1 p.2]) (x := (nl, l)) (by rintro ⟨a0, a1⟩ ⟨b0, b1⟩ h; simp [ints, intss, int, bool, row, frac, fracs, map_int_inj, map_row_inj, frac_inj, map_frac_inj] at h; simp [h]) trivial
set_option maxHeartbeats 2000000 in
theorem implFrk_ok : FnOk Tryz.prog 21 mFrk := by
  refine mk_ok fun ⟨nl, l⟩ _ => ?_
  have hrr := mIsRk_at nl l
  have hG : FnsOk Tryz.prog [(84, mIsRk)] := (.cons isRank_ok .nil)
  refine callOk_awp (ctx_ok eqOk hG) mixed (live := [true, false, true, true, true, true, false, false, true, false, false, false, true, true, true, true]) (dt := []) Tryz.func21 rfl (by kernel_rfl) (by kernel_rfl) fun w0 hlens => ?_
  clear hlens
  unfold frkT
  cases hr : rankB l.length l with
  | false =>
    rw [hr] at hrr
    simp [Tryz.f21, List.range, List.range.loop, ints, intss, int, bool, row, frac, fracs, ← List.map_take, ← List.map_drop, hrr]
  | true =>
    rw [hr] at hrr
    obtain ⟨_, n5, _, hin, _⟩ := rank_facts hr
    have hz : List.replicate l.length (AV.v (.int .u8 0)) = (flT l 0).map byV := by simp [flT, byV]
    have hl5 : l.length ≤ 5 := by omega
    have hl6 : l.length ≤ 281474976710656 ∧ l.length ≤ 4611686018427387904 := by omega
    simp [Tryz.f21, List.range, List.range.loop, ints, intss, int, bool, row, frac, fracs, ← List.map_take, ← List.map_drop, nlt0, hrr, hl6]

    refine awp_range (live := [true, false, true, true, true, true, false, false, true, false, false, false, true, true, true, true]) (ctx_ok eqOk hG) mixed [false, false, false, true, false, false, false, false, false, false, false, false, true, true, true] (l.length) (fun k => True) (fun k => ⟨[.junk, .junk, .junk, .ref 0 [] 0 l.length, .junk, .junk, .junk, .junk, .junk, .junk, .junk, .junk, ints nl l, int l.length, int k, .junk, .junk, .junk, .junk, .junk, .junk, .junk, .junk, .junk, .junk, .junk, .junk, .junk], [⟨true, .sl false 1 ((flT l k).map byV)⟩]⟩) ?_ (by simp [sub, slotsLe, clean, keep, refsL, refs, once, place, renL, ren, List.replicate, int, bool, hz, ints]) ?_ ?_ ?_
    · omega
    · trivial
    · intro k hk _ hwk
      have hkI : (k : Int) < (l.length : Int) := by omega
      have hv := hin k hk
      have hs : flT l (k + 1) = (flT l k).set k (97 + at0 l k) := rfl
      rw [at0_eq hk] at hs
      have hfl := flT_len (l := l) (k := k)
      have w1 : IntKind.i64.wrap (97 + l[k]) = 97 + l[k] := wrapI (by omega) (by omega)
      have w2 : IntKind.u8.wrap (97 + l[k]) = 97 + l[k] := by
        generalize l[k] = x at *
        obtain ⟨y, rfl⟩ : ∃ y : Nat, x = y := ⟨x.toNat, by omega⟩
        exact (by decide +kernel : ∀ y : Nat, y < 6 → IntKind.u8.wrap (97 + (y : Int)) = 97 + (y : Int)) y (by omega)
      have hm : (flT l (k + 1)).map byV = ((flT l k).map byV).set k (AV.v (.int .u8 (97 + l[k]))) := by rw [hs, List.map_set]; rfl
      generalize flT l (k + 1) = B at *
      generalize flT l k = A at *
      simp [List.range, List.range.loop, ints, intss, int, bool, row, frac, fracs, ← List.map_take, ← List.map_drop, nlt0, hk, hkI, hwk, w1, w2, hfl, hm]
      simp [byV]
    · intro _
      have e := flT_all (l := l)
      have hfl := flT_len (l := l) (k := l.length)
      have hb := bytesOf_by (flT l l.length)
      have hf : frkS l = ⟨((flT l l.length).map fun n => UInt8.ofNat n.toNat).toArray⟩ := by
        rw [e, List.map_map]; rfl
      rw [hf]
      generalize flT l l.length = A at *
      have ht : (A.map byV).take l.length = A.map byV := List.take_of_length_le (by simp; omega)
      simp [List.range, List.range.loop, ints, intss, int, bool, row, frac, fracs, ← List.map_take, ← List.map_drop, nlt0, hfl, hb, ht]
end Go.Proofs.YtkfmhpgnhkdebaaGreatDoor.Ax
namespace Go.Proofs.YtkfmhpgnhkdebaaGreatDoor.Ax
open Go Go.RowKit
set_option linter.unusedSimpArgs false
theorem join8 {a b c d e f g h s : ByteArray} : joinS [a, b, c, d, e, f, g, h] s = a ++ s ++ b ++ s ++ c ++ s ++ d ++ s ++ e ++ s ++ f ++ s ++ g ++ s ++ h := by
  apply bl_inj
  simp only [bl_app]
  unfold joinS
  rw [bl_mk]
  simp [Lib.join_cons, Lib.joinTail, List.append_assoc]
def prB (s : Int) (vs : List Vt) : List Int := lsB (fun l => kmT l vs) s
noncomputable def prlS (s : Int) (vs : List Vt) : ByteArray :=
  ⟨#[118, 111, 116, 101, 114, 115, 32]⟩ ++ itoaS (cvT s vs) ++ ⟨#[32, 119, 105, 110, 110, 101, 114, 32]⟩ ++ itoaS (cwT s vs) ++ ⟨#[32, 116, 111, 112, 32]⟩ ++ numS (topT s.toNat vs) ++ ⟨#[32, 98, 101, 115, 116, 32]⟩ ++ frkT (prB s vs)
noncomputable def prlT (s : Int) (vs : List Vt) : ByteArray := if profB s vs = true then prlS s vs else ⟨#[110, 111, 110, 101]⟩
structure PrF (s : Int) (vs : List Vt) : Prop where
  ic : inI (cvT s vs)
  iw : inI (cwT s vs)
  ht : numOk (topT s.toNat vs)
  sc : (itoaS (cvT s vs)).size ≤ 20
  sw : (itoaS (cwT s vs)).size ≤ 20
  st : (numS (topT s.toNat vs)).size ≤ 200
  sb : (frkT (prB s vs)).size ≤ 5
theorem onT_bd {f : Int → Int → Bool} {s : Nat} : -1 ≤ onT f s ∧ onT f s ≤ s := by
  unfold onT
  split
  · rename_i h
    have hx : at0 (thT f s) 0 = (thT f s)[0] := at0_eq (by omega)
    have hm : (thT f s)[0] ∈ selTo (fun a => tiTo f a s) s := List.getElem_mem _
    obtain ⟨i, h1, h2, _⟩ := selTo_mem hm
    omega
  · omega
theorem itoa_size {n : Int} (h : inI n) : (itoaS n).size ≤ 20 := by
  have := itoa_len h
  have e : (itoaS n).size = (bl (itoaS n)).length := by unfold bl; rw [Array.length_toList]; rfl
  rw [e]; unfold itoaS; rw [bl_mk]; exact this
theorem prF {s : Int} {vs : List Vt} (hp : profB s vs = true) : PrF s vs := by
  obtain ⟨h1, h2, h3⟩ := prof_facts hp
  obtain ⟨q1, q2, q3⟩ := allRk_in h1.1 h1.2
  have ic : inI (cvT s vs) := by
    have := vtrs_bd (p := fun _ => true) fun v hv => (h3 v hv).2
    apply inI_small
    unfold cvT
    rw [if_pos hp]
    omega
  have iw : inI (cwT s vs) := by
    have := onT_bd (f := btB vs) (s := s.toNat)
    apply inI_small
    unfold cwT
    rw [if_pos hp]
    omega
  have htl := topT_len (s := s.toNat) (vs := vs)
  have ht : numOk (topT s.toNat vs) := ⟨by omega, fun x hx => inI_small (by
    obtain ⟨i, h1, h2, _⟩ := selTo_mem (hx : x ∈ selTo _ _)
    omega)⟩
  have hst := numS_size ht.2
  refine ⟨ic, iw, ht, itoa_size ic, itoa_size iw, by omega, ?_⟩
  have hr : rankB s (prB s vs) = true := by
    unfold prB lsB lsR
    rcases bstTo_facts (W := fun k => - vK (fun l => kmT l vs) (allRk s) k) (k := (allRk s).length) with ⟨hz, _⟩ | ⟨i, n, h0, _, _, hi⟩
    · omega
    · rw [h0]
      simp only [brOf, nth_at hi]
      exact (q3 _ (List.getElem_mem hi)).2
  have hl := (rank_facts hr).2.2.1
  unfold frkT
  split
  · show (List.map leB (prB s vs)).toArray.size ≤ 5
    simp; omega
  · decide
noncomputable def mPrl : List AV → Option AV := mk (fun _ => True) (fun (p : Int × Bool × List Vt) => [prof p.1 p.2.1 p.2.2]) (fun p => .v (.string (prlT p.1 p.2.2)))
theorem mPrl_at (s : Int) (nl : Bool) (vs : List Vt) : mPrl [.agg [.v (.int .i64 s), .sl nl 2 (vs.map vote)]] = some (.v (.string (prlT s vs))) :=
  mk_eq (enc := fun (p : Int × Bool × List Vt) => [prof p.1 p.2.1 p.2.2]) (x := (s, nl, vs)) (by
    rintro ⟨a, b, c⟩ ⟨a', b', c'⟩ h
    simp [prof, vts, int, map_vote_inj] at h
    obtain ⟨rfl, rfl, rfl⟩ := h
    rfl) trivial
set_option maxHeartbeats 2000000 in
theorem implPrl_ok : FnOk Tryz.prog 11 mPrl := by
  refine mk_ok fun ⟨s, nl, vs⟩ _ => ?_
  have hpp := mProf_at s nl vs
  have hG : FnsOk Tryz.prog [(66, mProf), (18, mCv), (17, mItoa), (19, mCw), (20, mTop), (15, mFNum), (22, mKr), (21, mFrk), (67, mJoin)] := (.cons implProf_ok (.cons implCv_ok (.cons implFormatInt_ok (.cons implCw_ok (.cons implTop_ok (.cons implFormatNumbers_ok (.cons implKr_ok (.cons implFrk_ok (.cons implJoin_ok .nil)))))))))
  refine callOk_awpZ [0] (ctx_ok eqOk hG) mixed (live := [true, true, true, false, false, true]) (dt := [(3, ⟨[], [0, 0, 0, 0, 0, 0, 0, 1, 0, 0, 1, 0, 1], []⟩)]) Tryz.func11 rfl (by kernel_rfl) (by kernel_rfl) fun w0 hlens => ?_
  clear hlens
  cases h : profB s vs with
  | false =>
    rw [h] at hpp
    simp [Tryz.f11, List.range, List.range.loop, ints, intss, int, bool, row, frac, fracs, ← List.map_take, ← List.map_drop, andThen_n, freeze, frzA, frzAL, sets, prof, hpp, h, prlT]
  | true =>
    rw [h] at hpp
    have F := prF h
    have m1 := mCv_at s nl vs
    have m2 := mCw_at s nl vs h
    have m3 := mTop_at s nl vs h
    have m4 := mKr_at s nl vs h
    have h1 := mItoa_at _ F.ic
    have h2 := mItoa_at _ F.iw
    have h3 := mFNum_at false _ F.ht
    have h4 := mFrk_at false (prB s vs)
    have hg : prlT s vs = prlS s vs := by unfold prlT; rw [if_pos h]
    rw [hg]
    unfold prlS
    have sc := F.sc
    have sw := F.sw
    have st := F.st
    have sb := F.sb
    change mKr _ = some (.sl false 1 ((prB s vs).map int)) at m4
    generalize prB s vs = K at *
    generalize topT s.toNat vs = T at *
    generalize cvT s vs = c at *
    generalize cwT s vs = w at *
    have tK : K.take K.length = K := List.take_length
    have tT : T.take T.length = T := List.take_length
    have hj := mJoin_at false [⟨#[118, 111, 116, 101, 114, 115]⟩, itoaS c, ⟨#[119, 105, 110, 110, 101, 114]⟩, itoaS w, ⟨#[116, 111, 112]⟩, numS T, ⟨#[98, 101, 115, 116]⟩, frkT K] ⟨#[32]⟩ ⟨by simp, by
      have hs : ∀ a : ByteArray, (bl a).length = a.size := fun a => by simp [bl]
      have y1 : (⟨#[118, 111, 116, 101, 114, 115]⟩ : ByteArray).size = 6 := rfl
      have y2 : (⟨#[32]⟩ : ByteArray).size = 1 := rfl
      have y3 : (⟨#[119, 105, 110, 110, 101, 114]⟩ : ByteArray).size = 6 := rfl
      have y4 : (⟨#[116, 111, 112]⟩ : ByteArray).size = 3 := rfl
      have y5 : (⟨#[98, 101, 115, 116]⟩ : ByteArray).size = 4 := rfl
      simp [Lib.join_cons, Lib.joinTail, hs]
      omega⟩
    rw [join8] at hj
    simp only [List.map_cons, List.map_nil, str] at hj
    simp [Tryz.f11, List.range, List.range.loop, ints, intss, int, bool, row, frac, fracs, ← List.map_take, ← List.map_drop, andThen_n, freeze, frzA, frzAL, sets, prof, hpp, m1, m2, m3, m4, h1, h2, h3, h4, tK, tT, hj]
    apply bl_inj
    simp only [bl_app]
    simp [bl]
end Go.Proofs.YtkfmhpgnhkdebaaGreatDoor.Ax
namespace Go.Proofs.YtkfmhpgnhkdebaaGreatDoor.Ax
open Go Go.RowKit
set_option linter.unusedSimpArgs false
theorem mx_facts {xs : List Int} : ∀ k, 1 ≤ k → k ≤ xs.length → (∀ i, (h : i < xs.length) → i < k → xs[i] ≤ mxTo xs k) ∧ ∃ (i : Nat) (h : i < xs.length), mxTo xs k = xs[i]
  | 0, h, _ => by omega
  | k + 1, _, hk => by
    by_cases hk0 : k = 0
    · subst hk0
      rw [mxTo_one (by omega)]
      exact ⟨fun i h hi => by obtain rfl : i = 0 := by omega
                              exact Int.le_refl _, 0, by omega, rfl⟩
    · obtain ⟨h1, j, hj, h2⟩ := mx_facts (xs := xs) k (by omega) (by omega)
      rw [mxTo_succ (by omega)]
      refine ⟨fun i h hi => ?_, ?_⟩
      · by_cases e : i = k
        · subst e; exact Int.le_max_right _ _
        · exact Int.le_trans (h1 i h (by omega)) (Int.le_max_left _ _)
      · rcases Int.le_total (mxTo xs k) xs[k] with h | h
        · exact ⟨k, by omega, by rw [Int.max_eq_right h]⟩
        · exact ⟨j, hj, by rw [Int.max_eq_left h, h2]⟩
theorem mx_sum {xs : List Int} (h : ∀ x ∈ xs, 0 ≤ x ∧ x ≤ 1000000) (hl : 1 ≤ xs.length) : decide (0 < mx xs) = decide (0 < xs.sum) := by
  obtain ⟨h1, j, hj, h2⟩ := mx_facts (xs := xs) xs.length hl (Nat.le_refl _)
  apply decide_eq_decide.2
  change (∀ i, (h : i < xs.length) → i < xs.length → xs[i] ≤ mx xs) at h1
  change mx xs = xs[j] at h2
  constructor
  · intro hm
    rw [h2] at hm
    obtain ⟨a, b, e⟩ := List.append_of_mem (List.getElem_mem hj)
    have ha := sum_bd (l := a) (c := 1000000) fun y hy => h y (by rw [e]; simp [hy])
    have hb := sum_bd (l := b) (c := 1000000) fun y hy => h y (by rw [e]; simp [hy])
    have e2 := congrArg List.sum e
    simp only [List.sum_append, List.sum_cons] at e2
    omega
  · intro hs
    rcases Int.lt_or_le 0 (mx xs) with hm | hm
    · exact hm
    · have := sum_bd (l := xs) (c := 0) fun x hx => by
        obtain ⟨i, hi, rfl⟩ := List.getElem_of_mem hx
        have := h1 i hi hi
        exact ⟨(h _ (List.getElem_mem hi)).1, by omega⟩
      omega
noncomputable def mCnt : List AV → Option AV := mk (fun _ => True) (fun (p : (Bool) × (List Int)) => [ints p.1 p.2]) (fun p => bool (cntB p.2))
theorem mCnt_at (nl : Bool) (xs : List Int) : mCnt [.sl nl 1 (xs.map int)] = some (.v (.bool (cntB xs))) :=
  mk_eq (enc := fun (p : (Bool) × (List Int)) => [ints p.1 p.2]) (x := (nl, xs)) (by rintro ⟨a0, a1⟩ ⟨b0, b1⟩ h; simp [ints, intss, int, bool, row, frac, fracs, map_int_inj, map_row_inj, frac_inj, map_frac_inj] at h; simp [h]) trivial
noncomputable def mQt : List AV → Option AV := mk (fun _ => True) (fun (p : (Bool) × (List Int) × (Int)) => [ints p.1 p.2.1, int p.2.2]) (fun p => bool (qtB p.2.1 p.2.2))
theorem mQt_at (nl : Bool) (xs : List Int) (n : Int) : mQt [.sl nl 1 (xs.map int), .v (.int .i64 n)] = some (.v (.bool (qtB xs n))) :=
  mk_eq (enc := fun (p : (Bool) × (List Int) × (Int)) => [ints p.1 p.2.1, int p.2.2]) (x := (nl, xs, n)) (by rintro ⟨a0, a1, a2⟩ ⟨b0, b1, b2⟩ h; simp [ints, intss, int, bool, row, frac, fracs, map_int_inj, map_row_inj, frac_inj, map_frac_inj] at h; simp [h]) trivial
noncomputable def mSe : List AV → Option AV := mk (fun _ => True) (fun (p : (Bool) × (List Int) × (Bool) × (List Int)) => [ints p.1 p.2.1, ints p.2.2.1 p.2.2.2]) (fun p => bool (seB p.2.1 p.2.2.2))
theorem mSe_at (nl : Bool) (xs : List Int) (nl2 : Bool) (ss : List Int) : mSe [.sl nl 1 (xs.map int), .sl nl2 1 (ss.map int)] = some (.v (.bool (seB xs ss))) :=
  mk_eq (enc := fun (p : (Bool) × (List Int) × (Bool) × (List Int)) => [ints p.1 p.2.1, ints p.2.2.1 p.2.2.2]) (x := (nl, xs, nl2, ss)) (by rintro ⟨a0, a1, a2, a3⟩ ⟨b0, b1, b2, b3⟩ h; simp [ints, intss, int, bool, row, frac, fracs, map_int_inj, map_row_inj, frac_inj, map_frac_inj] at h; simp [h]) trivial
set_option maxHeartbeats 1000000 in
theorem implCounts_ok : FnOk Tryz.prog 211 mCnt := by
  refine mk_ok fun ⟨nl, xs⟩ _ => ?_
  have hG : FnsOk Tryz.prog [(99, mWithin), (223, mAllIn), (191, mMax)] := (.cons within_ok (.cons allWithin_ok (.cons max_ok .nil)))
  refine callOk_awp (ctx_ok eqOk hG) mixed (live := [true, false, true]) (dt := []) Tryz.func211 rfl (by kernel_rfl) (by kernel_rfl) fun w0 hlens => ?_
  clear hlens
  have h1 := mAllIn_at nl xs 0 1000000
  cases hl : inR 1 6 xs.length with
  | false => simp [Tryz.f211, List.range, List.range.loop, ints, intss, int, bool, row, frac, fracs, ← List.map_take, ← List.map_drop, mWithin_in, hl, cntB]
  | true =>
    cases ha : xs.all (inR 0 1000000) with
    | false =>
      rw [ha] at h1
      simp [Tryz.f211, List.range, List.range.loop, ints, intss, int, bool, row, frac, fracs, ← List.map_take, ← List.map_drop, mWithin_in, hl, cntB, h1, ha]
    | true =>
      rw [ha] at h1
      have hl2 := inR_iff.1 hl
      have hx : ∀ x ∈ xs, 0 ≤ x ∧ x ≤ 1000000 := fun x hx => inR_iff.1 (List.all_eq_true.1 ha x hx)
      have h2 := mMax_at nl xs (by omega) (by omega)
      have h3 := mx_sum hx (by omega)
      simp [Tryz.f211, List.range, List.range.loop, ints, intss, int, bool, row, frac, fracs, ← List.map_take, ← List.map_drop, mWithin_in, hl, cntB, h1, ha, h2, h3]
theorem implQt_ok : FnOk Tryz.prog 151 mQt := by
  refine mk_ok fun ⟨nl, xs, n⟩ _ => ?_
  have hG : FnsOk Tryz.prog [(211, mCnt), (99, mWithin)] := (.cons implCounts_ok (.cons within_ok .nil))
  refine callOk_awp (ctx_ok eqOk hG) mixed (live := [true, true, false, false, true]) (dt := []) Tryz.func151 rfl (by kernel_rfl) (by kernel_rfl) fun w0 hlens => ?_
  clear hlens
  have h1 := mCnt_at nl xs
  cases hc : cntB xs <;> rw [hc] at h1 <;> simp [Tryz.f151, List.range, List.range.loop, ints, intss, int, bool, row, frac, fracs, ← List.map_take, ← List.map_drop, mWithin_in, h1, qtB, hc]
set_option maxHeartbeats 1000000 in
theorem implSe_ok : FnOk Tryz.prog 161 mSe := by
  refine mk_ok fun ⟨nl, xs, nl2, ss⟩ _ => ?_
  have hG : FnsOk Tryz.prog [(211, mCnt), (223, mAllIn), (162, mSum)] := (.cons implCounts_ok (.cons allWithin_ok (.cons sumOf_ok .nil)))
  refine callOk_awp (ctx_ok eqOk hG) mixed (live := [true, true, false, false, true]) (dt := []) Tryz.func161 rfl (by kernel_rfl) (by kernel_rfl) fun w0 hlens => ?_
  clear hlens
  have h1 := mCnt_at nl xs
  cases hc : cntB xs with
  | false => rw [hc] at h1; simp [Tryz.f161, List.range, List.range.loop, ints, intss, int, bool, row, frac, fracs, ← List.map_take, ← List.map_drop, h1, seB, hc]
  | true =>
    rw [hc] at h1
    obtain ⟨c1, c2, _⟩ := cnt_facts hc
    by_cases hl : ss.length = xs.length
    · have h2 := mAllIn_at nl2 ss 0 100
      cases ha : ss.all (inR 0 100) with
      | false => rw [ha] at h2; simp [Tryz.f161, List.range, List.range.loop, ints, intss, int, bool, row, frac, fracs, ← List.map_take, ← List.map_drop, h1, seB, hc, hl, h2, ha]
      | true =>
        rw [ha] at h2
        have h3 := mSum_at nl2 ss
        rw [sumW_all (fun x hx => by have := inR_iff.1 (List.all_eq_true.1 ha x hx); omega) (by omega)] at h3
        simp [Tryz.f161, List.range, List.range.loop, ints, intss, int, bool, row, frac, fracs, ← List.map_take, ← List.map_drop, h1, seB, hc, hl, h2, ha, h3]
    · have hl' : ((ss.length : Int) == (xs.length : Int)) = false := by simp; omega
      simp [Tryz.f161, List.range, List.range.loop, ints, intss, int, bool, row, frac, fracs, ← List.map_take, ← List.map_drop, h1, seB, hc, hl, hl']
end Go.Proofs.YtkfmhpgnhkdebaaGreatDoor.Ax
