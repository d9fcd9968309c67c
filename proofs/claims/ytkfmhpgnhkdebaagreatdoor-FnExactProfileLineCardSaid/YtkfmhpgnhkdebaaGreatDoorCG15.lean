/-
  Six words joined. Plain Lean, no program in sight.
-/
import Derived.Test.YtkfmhpgnhkdebaaGreatDoorCG14
import Derived.Test.YtkfmhpgnhkdebaaGreatDoorCG13
namespace Go.Proofs.YtkfmhpgnhkdebaaGreatDoor.Ax
open Go Go.RowKit
set_option linter.unusedSimpArgs false
theorem bl_inj {a b : ByteArray} (h : bl a = bl b) : a = b := by
  obtain ⟨⟨a⟩⟩ := a
  obtain ⟨⟨b⟩⟩ := b
  simp [bl] at h
  rw [h]
theorem bl_app {a b : ByteArray} : bl (a ++ b) = bl a ++ bl b := by
  simp [bl, ByteArray.data_append]
end Go.Proofs.YtkfmhpgnhkdebaaGreatDoor.Ax
namespace Go.Proofs.YtkfmhpgnhkdebaaGreatDoor.Ax
open Go Go.RowKit
set_option linter.unusedSimpArgs false
def byV (n : Int) : AV := .v (.int .u8 n)
def frT (l : List Int) : Nat → List Int
  | 0 => List.replicate l.length 0
  | k + 1 => (frT l k).set k (97 + at0 l k)
theorem frT_len {l : List Int} : ∀ {k : Nat}, (frT l k).length = l.length
  | 0 => by simp [frT]
  | k + 1 => by simp [frT, frT_len (l := l) (k := k)]
theorem frT_at {l : List Int} {i : Nat} (hi : i < l.length) : ∀ {k : Nat}, k ≤ l.length → (frT l k)[i]? = some (if i < k then 97 + l[i] else 0)
  | 0, _ => by simp [frT, hi]
  | k + 1, hk => by
    unfold frT
    by_cases e : k = i
    · subst e
      rw [List.getElem?_set_self (by rw [frT_len]; omega), at0_eq hi, if_pos (by omega)]
    · rw [List.getElem?_set_ne e, frT_at hi (k := k) (by omega)]
      by_cases h : i < k
      · rw [if_pos h, if_pos (by omega)]
      · rw [if_neg h, if_neg (by omega)]
theorem frT_all {l : List Int} : frT l l.length = l.map fun a => 97 + a := by
  apply List.ext_getElem?
  intro i
  by_cases hi : i < l.length
  · rw [frT_at hi (Nat.le_refl _), if_pos hi, List.getElem?_map, List.getElem?_eq_getElem hi]; rfl
  · rw [List.getElem?_eq_none (by rw [frT_len]; omega), List.getElem?_eq_none (by rw [List.length_map]; omega)]
def leB (a : Int) : UInt8 := UInt8.ofNat (97 + a).toNat
def frkS (l : List Int) : ByteArray := ⟨(l.map leB).toArray⟩
def frkT (l : List Int) : ByteArray := if rankB l.length l = true then frkS l else ⟨#[]⟩
theorem bytesOf_by : ∀ (ns : List Int), bytesOf (ns.map byV) = some (ns.map fun n => UInt8.ofNat n.toNat)
  | [] => rfl
  | n :: ns => by
    have ih := bytesOf_by ns
    rw [List.map_cons, byV, bytesOf, ih]
    rfl
theorem frk_step {l : List Int} {k : Nat} (h : k < l.length) : frkS (l.take (k + 1)) = frkS (l.take k) ++ ⟨#[leB l[k]]⟩ := by
  apply bl_inj
  unfold frkS
  rw [List.take_succ_eq_append_getElem h, List.map_append]
  simp [bl_app, bl, -List.map_take]
noncomputable def mFrk : List AV → Option AV := mk (fun _ => True) (fun (p : (Bool) × (List Int)) => [ints p.1 p.2]) (fun p => .v (.string (frkT p.2)))
theorem mFrk_at (nl : Bool) (l : List Int) : mFrk [.sl nl 1 (l.map int)] = some (.v (.string (frkT l))) :=
  mk_eq (enc := fun (p : (Bool) × (List Int)) => [ints p.1 p.2]) (x := (nl, l)) (by rintro ⟨a0, a1⟩ ⟨b0, b1⟩ h; simp [ints, intss, int, bool, row, frac, fracs, map_int_inj, map_row_inj, frac_inj, map_frac_inj] at h; simp [h]) trivial
set_option maxHeartbeats 2000000 in
theorem implFrk_ok : FnOk Tryz.prog 21 mFrk := by
  refine mk_ok fun ⟨nl, l⟩ _ => ?_
  have hrr := mIsRk_at nl l
  have hG : FnsOk Tryz.prog [(84, mIsRk)] := (.cons isRank_ok .nil)
  refine callOk_awp (ctx_ok eqOk hG) mixed (live := [true, false, true, true, true, true, false, false, true, false, false, false, true, true, true, true]) (dt := []) Tryz.func21 rfl (by kernel_rfl) (by kernel_rfl) fun w0 hlens => ?_
  clear hlens
  unfold frkT
  cases hr : rankB l.length l with
  | false =>
    rw [hr] at hrr
    simp [Tryz.f21, List.range, List.range.loop, ints, intss, int, bool, row, frac, fracs, ← List.map_take, ← List.map_drop, hrr]
  | true =>
    rw [hr] at hrr
    obtain ⟨_, n5, _, hin, _⟩ := rank_facts hr
    have hz : List.replicate l.length (AV.v (.int .u8 0)) = (frT l 0).map byV := by simp [frT, byV]
    have hl5 : l.length ≤ 5 := by omega
    have hl6 : l.length ≤ 281474976710656 ∧ l.length ≤ 4611686018427387904 := by omega
    simp [Tryz.f21, List.range, List.range.loop, ints, intss, int, bool, row, frac, fracs, ← List.map_take, ← List.map_drop, nlt0, hrr, hl6]

    refine awp_range (live := [true, false, true, true, true, true, false, false, true, false, false, false, true, true, true, true]) (ctx_ok eqOk hG) mixed [false, false, false, true, false, false, false, false, false, false, false, false, true, true, true] (l.length) (fun k => True) (fun k => ⟨[.junk, .junk, .junk, .ref 0 [] 0 l.length, .junk, .junk, .junk, .junk, .junk, .junk, .junk, .junk, ints nl l, int l.length, int k, .junk, .junk, .junk, .junk, .junk, .junk, .junk, .junk, .junk, .junk, .junk, .junk, .junk], [⟨true, .sl false 1 ((frT l k).map byV)⟩]⟩) ?_ (by simp [sub, slotsLe, clean, keep, refsL, refs, once, place, renL, ren, List.replicate, int, bool, hz, ints]) ?_ ?_ ?_
    · omega
    · trivial
    · intro k hk _ hwk
      have hkI : (k : Int) < (l.length : Int) := by omega
      have hv := hin k hk
      have hs : frT l (k + 1) = (frT l k).set k (97 + at0 l k) := rfl
      rw [at0_eq hk] at hs
      have hfl := frT_len (l := l) (k := k)
      have w1 : IntKind.i64.wrap (97 + l[k]) = 97 + l[k] := wrapI (by omega) (by omega)
      have w2 : IntKind.u8.wrap (97 + l[k]) = 97 + l[k] := by
        generalize l[k] = x at *
        obtain ⟨y, rfl⟩ : ∃ y : Nat, x = y := ⟨x.toNat, by omega⟩
        exact (by decide +kernel : ∀ y : Nat, y < 6 → IntKind.u8.wrap (97 + (y : Int)) = 97 + (y : Int)) y (by omega)
      have hm : (frT l (k + 1)).map byV = ((frT l k).map byV).set k (AV.v (.int .u8 (97 + l[k]))) := by rw [hs, List.map_set]; rfl
      generalize frT l (k + 1) = B at *
      generalize frT l k = A at *
      simp [List.range, List.range.loop, ints, intss, int, bool, row, frac, fracs, ← List.map_take, ← List.map_drop, nlt0, hk, hkI, hwk, w1, w2, hfl, hm]
      simp [byV]
    · intro _
      have e := frT_all (l := l)
      have hfl := frT_len (l := l) (k := l.length)
      have hb := bytesOf_by (frT l l.length)
      have hf : frkS l = ⟨((frT l l.length).map fun n => UInt8.ofNat n.toNat).toArray⟩ := by
        rw [e, List.map_map]; rfl
      rw [hf]
      generalize frT l l.length = A at *
      have ht : (A.map byV).take l.length = A.map byV := List.take_of_length_le (by simp; omega)
      simp [List.range, List.range.loop, ints, intss, int, bool, row, frac, fracs, ← List.map_take, ← List.map_drop, nlt0, hfl, hb, ht]
theorem letter_ok (a : Int) (h : 0 ≤ a ∧ a < 5) : CallOk Tryz.prog 140 [int a] (.v (.string ⟨#[leB a]⟩)) := by
  have hG : FnsOk Tryz.prog [] := .nil
  refine callOk_awp (ctx_ok eqOk hG) mixed (live := [true, false, true]) (dt := []) Tryz.func140 rfl (by kernel_rfl) (by kernel_rfl) fun w0 hlens => ?_
  clear hlens
  have w1 : IntKind.i64.wrap (97 + a) = 97 + a := wrapI (by omega) (by omega)
  have w2 : IntKind.u8.wrap (97 + a) = 97 + a := by
    obtain ⟨y, rfl⟩ : ∃ y : Nat, a = y := ⟨a.toNat, by omega⟩
    exact (by decide +kernel : ∀ y : Nat, y < 6 → IntKind.u8.wrap (97 + (y : Int)) = 97 + (y : Int)) y (by omega)
  simp [Tryz.f140, List.range, List.range.loop, ints, intss, int, bool, row, frac, fracs, ← List.map_take, ← List.map_drop, w1, w2, bytesOf, leB]
noncomputable def mLet : List AV → Option AV := mk (fun p => 0 ≤ p ∧ p < 5) (fun (p : (Int)) => [int p]) (fun p => .v (.string ⟨#[leB p]⟩))
theorem mLet_at (a : Int) (hpre : 0 ≤ a ∧ a < 5) : mLet [.v (.int .i64 a)] = some (.v (.string ⟨#[leB a]⟩)) :=
  mk_eq (enc := fun (p : (Int)) => [int p]) (x := (a)) (by rintro a0 b0 h; simp [ints, intss, int, bool, row, frac, fracs, map_int_inj, map_row_inj, frac_inj, map_frac_inj] at h; simp [h]) hpre
theorem let_ok : FnOk Tryz.prog 140 mLet := mk_ok fun a h => letter_ok a h
set_option maxHeartbeats 2000000 in
theorem specFrk_ok : FnOk Tryz.prog 63 mFrk := by
  refine mk_ok fun ⟨nl, l⟩ _ => ?_
  have hrr := mRank_at l.length nl l
  have hG : FnsOk Tryz.prog [(134, mRank), (140, mLet)] := (.cons specRankingOk_ok (.cons let_ok .nil))
  refine callOk_awp (ctx_ok eqOk hG) mixed (live := [true, false, true, true, false, true, false, false, false, false, true, true, true, true, true]) (dt := []) Tryz.func63 rfl (by kernel_rfl) (by kernel_rfl) fun w0 hlens => ?_
  clear hlens
  unfold frkT
  cases hr : rankB l.length l with
  | false =>
    rw [hr] at hrr
    simp [Tryz.f63, List.range, List.range.loop, ints, intss, int, bool, row, frac, fracs, ← List.map_take, ← List.map_drop, hrr]
  | true =>
    rw [hr] at hrr
    obtain ⟨_, n5, _, hin, _⟩ := rank_facts hr
    have hz : frkS (l.take 0) = ⟨#[]⟩ := rfl
    have hz2 : frkS [] = ⟨#[]⟩ := rfl
    simp [Tryz.f63, List.range, List.range.loop, ints, intss, int, bool, row, frac, fracs, ← List.map_take, ← List.map_drop, nlt0, hrr]
    refine awp_range (live := [true, false, true, true, false, true, false, false, false, false, true, true, true, true, true]) (ctx_ok eqOk hG) mixed [false, false, false, true, false, false, false, false, false, false, false, true, true, true] (l.length) (fun k => True) (fun k => ⟨[.junk, .junk, .junk, .v (.string (frkS (l.take k))), .junk, .junk, .junk, .junk, .junk, .junk, .junk, ints nl l, int l.length, int k, .junk, .junk, .junk, .junk, .junk, .junk, .junk, .junk, .junk], []⟩) ?_ (by simp [sub, slotsLe, clean, keep, refsL, refs, once, place, renL, ren, List.replicate, int, bool, hz, hz2, ints]) ?_ ?_ ?_
    · omega
    · trivial
    · intro k hk _ hwk
      have hkI : (k : Int) < (l.length : Int) := by omega
      have hv := hin k hk
      have hL := mLet_at l[k] (by omega)
      have hs := frk_step hk
      have hsz : (frkS (l.take k)).size = k := by
        show (List.map leB (l.take k)).toArray.size = k
        simp; omega
      have h1 : (⟨#[leB l[k]]⟩ : ByteArray).size = 1 := rfl
      have h2 : k + 1 ≤ 9223372036854775807 := by omega
      simp [List.range, List.range.loop, ints, intss, int, bool, row, frac, fracs, ← List.map_take, ← List.map_drop, nlt0, hk, hkI, hwk, hL, hs, hsz, h1, h2]
    · intro _
      have e : l.take l.length = l := List.take_length
      simp [List.range, List.range.loop, ints, intss, int, bool, row, frac, fracs, ← List.map_take, ← List.map_drop, nlt0, e]
end Go.Proofs.YtkfmhpgnhkdebaaGreatDoor.Ax
namespace Go.Proofs.YtkfmhpgnhkdebaaGreatDoor.Ax
open Go Go.RowKit
set_option linter.unusedSimpArgs false
theorem join8 {a b c d e f g h s : ByteArray} : joinS [a, b, c, d, e, f, g, h] s = a ++ s ++ b ++ s ++ c ++ s ++ d ++ s ++ e ++ s ++ f ++ s ++ g ++ s ++ h := by
  apply bl_inj
  simp only [bl_app]
  unfold joinS
  rw [bl_mk]
  simp [Lib.join_cons, Lib.joinTail, List.append_assoc]
def prB (s : Int) (vs : List Vt) : List Int := lsB (fun l => kmT l vs) s
noncomputable def prlS (s : Int) (vs : List Vt) : ByteArray :=
  ⟨#[118, 111, 116, 101, 114, 115, 32]⟩ ++ itoaS (cvT s vs) ++ ⟨#[32, 119, 105, 110, 110, 101, 114, 32]⟩ ++ itoaS (cwT s vs) ++ ⟨#[32, 116, 111, 112, 32]⟩ ++ numS (topT s.toNat vs) ++ ⟨#[32, 98, 101, 115, 116, 32]⟩ ++ frkT (prB s vs)
noncomputable def prlT (s : Int) (vs : List Vt) : ByteArray := if profB s vs = true then prlS s vs else ⟨#[110, 111, 110, 101]⟩
structure PrF (s : Int) (vs : List Vt) : Prop where
  ic : inI (cvT s vs)
  iw : inI (cwT s vs)
  ht : numOk (topT s.toNat vs)
  sc : (itoaS (cvT s vs)).size ≤ 20
  sw : (itoaS (cwT s vs)).size ≤ 20
  st : (numS (topT s.toNat vs)).size ≤ 200
  sb : (frkT (prB s vs)).size ≤ 5
theorem onT_bd {f : Int → Int → Bool} {s : Nat} : -1 ≤ onT f s ∧ onT f s ≤ s := by
  unfold onT
  split
  · rename_i h
    have hx : at0 (thT f s) 0 = (thT f s)[0] := at0_eq (by omega)
    have hm : (thT f s)[0] ∈ selTo (fun a => tiTo f a s) s := List.getElem_mem _
    obtain ⟨i, h1, h2, _⟩ := selTo_mem hm
    omega
  · omega
theorem itoa_size {n : Int} (h : inI n) : (itoaS n).size ≤ 20 := by
  have := itoa_len h
  have e : (itoaS n).size = (bl (itoaS n)).length := by unfold bl; rw [Array.length_toList]; rfl
  rw [e]; unfold itoaS; rw [bl_mk]; exact this
theorem prF {s : Int} {vs : List Vt} (hp : profB s vs = true) : PrF s vs := by
  obtain ⟨h1, h2, h3⟩ := prof_facts hp
  obtain ⟨q1, q2, q3⟩ := allRk_in h1.1 h1.2
  have ic : inI (cvT s vs) := by
    have := vtrs_bd (p := fun _ => true) fun v hv => (h3 v hv).2
    apply inI_small
    unfold cvT
    rw [if_pos hp]
    omega
  have iw : inI (cwT s vs) := by
    have := onT_bd (f := btB vs) (s := s.toNat)
    apply inI_small
    unfold cwT
    rw [if_pos hp]
    omega
  have htl := topT_len (s := s.toNat) (vs := vs)
  have ht : numOk (topT s.toNat vs) := ⟨by omega, fun x hx => inI_small (by
    obtain ⟨i, h1, h2, _⟩ := selTo_mem (hx : x ∈ selTo _ _)
    omega)⟩
  have hst := numS_size ht.2
  refine ⟨ic, iw, ht, itoa_size ic, itoa_size iw, by omega, ?_⟩
  have hr : rankB s (prB s vs) = true := by
    unfold prB lsB lsR
    rcases bstTo_facts (W := fun k => - vK (fun l => kmT l vs) (allRk s) k) (k := (allRk s).length) with ⟨hz, _⟩ | ⟨i, n, h0, _, _, hi⟩
    · omega
    · rw [h0]
      simp only [brOf, nth_at hi]
      exact (q3 _ (List.getElem_mem hi)).2
  have hl := (rank_facts hr).2.2.1
  unfold frkT
  split
  · show (List.map leB (prB s vs)).toArray.size ≤ 5
    simp; omega
  · decide
noncomputable def mPrl : List AV → Option AV := mk (fun _ => True) (fun (p : Int × Bool × List Vt) => [prof p.1 p.2.1 p.2.2]) (fun p => .v (.string (prlT p.1 p.2.2)))
theorem mPrl_at (s : Int) (nl : Bool) (vs : List Vt) : mPrl [.agg [.v (.int .i64 s), .sl nl 2 (vs.map vote)]] = some (.v (.string (prlT s vs))) :=
  mk_eq (enc := fun (p : Int × Bool × List Vt) => [prof p.1 p.2.1 p.2.2]) (x := (s, nl, vs)) (by
    rintro ⟨a, b, c⟩ ⟨a', b', c'⟩ h
    simp [prof, vts, int, map_vote_inj] at h
    obtain ⟨rfl, rfl, rfl⟩ := h
    rfl) trivial
set_option maxHeartbeats 2000000 in
theorem implPrl_ok : FnOk Tryz.prog 11 mPrl := by
  refine mk_ok fun ⟨s, nl, vs⟩ _ => ?_
  have hpp := mProf_at s nl vs
  have hG : FnsOk Tryz.prog [(66, mProf), (18, mCv), (17, mItoa), (19, mCw), (20, mTop), (15, mFNum), (22, mKr), (21, mFrk), (67, mJoin)] := (.cons implProf_ok (.cons implCv_ok (.cons implFormatInt_ok (.cons implCw_ok (.cons implTop_ok (.cons implFormatNumbers_ok (.cons implKr_ok (.cons implFrk_ok (.cons implJoin_ok .nil)))))))))
  refine callOk_awpZ [0] (ctx_ok eqOk hG) mixed (live := [true, true, true, false, false, true]) (dt := [(3, ⟨[], [0, 0, 0, 0, 0, 0, 0, 1, 0, 0, 1, 0, 1], []⟩)]) Tryz.func11 rfl (by kernel_rfl) (by kernel_rfl) fun w0 hlens => ?_
  clear hlens
  cases h : profB s vs with
  | false =>
    rw [h] at hpp
    simp [Tryz.f11, List.range, List.range.loop, ints, intss, int, bool, row, frac, fracs, ← List.map_take, ← List.map_drop, andThen_n, freeze, frzA, frzAL, sets, prof, hpp, h, prlT]
  | true =>
    rw [h] at hpp
    have F := prF h
    have m1 := mCv_at s nl vs
    have m2 := mCw_at s nl vs h
    have m3 := mTop_at s nl vs h
    have m4 := mKr_at s nl vs h
    have h1 := mItoa_at _ F.ic
    have h2 := mItoa_at _ F.iw
    have h3 := mFNum_at false _ F.ht
    have h4 := mFrk_at false (prB s vs)
    have hg : prlT s vs = prlS s vs := by unfold prlT; rw [if_pos h]
    rw [hg]
    unfold prlS
    have sc := F.sc
    have sw := F.sw
    have st := F.st
    have sb := F.sb
    change mKr _ = some (.sl false 1 ((prB s vs).map int)) at m4
    generalize prB s vs = K at *
    generalize topT s.toNat vs = T at *
    generalize cvT s vs = c at *
    generalize cwT s vs = w at *
    have tK : K.take K.length = K := List.take_length
    have tT : T.take T.length = T := List.take_length
    have hj := mJoin_at false [⟨#[118, 111, 116, 101, 114, 115]⟩, itoaS c, ⟨#[119, 105, 110, 110, 101, 114]⟩, itoaS w, ⟨#[116, 111, 112]⟩, numS T, ⟨#[98, 101, 115, 116]⟩, frkT K] ⟨#[32]⟩ ⟨by simp, by
      have hs : ∀ a : ByteArray, (bl a).length = a.size := fun a => by simp [bl]
      have y1 : (⟨#[118, 111, 116, 101, 114, 115]⟩ : ByteArray).size = 6 := rfl
      have y2 : (⟨#[32]⟩ : ByteArray).size = 1 := rfl
      have y3 : (⟨#[119, 105, 110, 110, 101, 114]⟩ : ByteArray).size = 6 := rfl
      have y4 : (⟨#[116, 111, 112]⟩ : ByteArray).size = 3 := rfl
      have y5 : (⟨#[98, 101, 115, 116]⟩ : ByteArray).size = 4 := rfl
      simp [Lib.join_cons, Lib.joinTail, hs]
      omega⟩
    rw [join8] at hj
    simp only [List.map_cons, List.map_nil, str] at hj
    simp [Tryz.f11, List.range, List.range.loop, ints, intss, int, bool, row, frac, fracs, ← List.map_take, ← List.map_drop, andThen_n, freeze, frzA, frzAL, sets, prof, hpp, m1, m2, m3, m4, h1, h2, h3, h4, tK, tT, hj]
    apply bl_inj
    simp only [bl_app]
    simp [bl]
set_option maxHeartbeats 2000000 in
theorem specPrl_ok : FnOk Tryz.prog 9 mPrl := by
  refine mk_ok fun ⟨s, nl, vs⟩ _ => ?_
  have hpp := mProf_at s nl vs
  have hG : FnsOk Tryz.prog [(57, mProf), (59, mCv), (58, mItoa), (60, mCw), (62, mTop), (61, mFNum), (64, mKr), (63, mFrk)] := (.cons specProf_ok (.cons specCv_ok (.cons specFormatInt_ok (.cons specCw_ok (.cons specTop_ok (.cons specFormatNumbers_ok (.cons specKr_ok (.cons specFrk_ok .nil))))))))
  refine callOk_awpZ [0] (ctx_ok eqOk hG) mixed (live := [true, true, true, false, false, true]) (dt := [(3, ⟨[], [0, 0, 0, 0, 0, 0, 0, 0, 0, 0, 0, 1, 0, 0, 0, 0, 1], []⟩)]) Tryz.func9 rfl (by kernel_rfl) (by kernel_rfl) fun w0 hlens => ?_
  clear hlens
  cases h : profB s vs with
  | false =>
    rw [h] at hpp
    simp [Tryz.f9, List.range, List.range.loop, ints, intss, int, bool, row, frac, fracs, ← List.map_take, ← List.map_drop, andThen_n, freeze, frzA, frzAL, sets, prof, hpp, h, prlT]
  | true =>
    rw [h] at hpp
    have F := prF h
    have m1 := mCv_at s nl vs
    have m2 := mCw_at s nl vs h
    have m3 := mTop_at s nl vs h
    have m4 := mKr_at s nl vs h
    have h1 := mItoa_at _ F.ic
    have h2 := mItoa_at _ F.iw
    have h3 := mFNum_at false _ F.ht
    have h4 := mFrk_at false (prB s vs)
    have hg : prlT s vs = prlS s vs := by unfold prlT; rw [if_pos h]
    rw [hg]
    unfold prlS
    have sc := F.sc
    have sw := F.sw
    have st := F.st
    have sb := F.sb
    change mKr _ = some (.sl false 1 ((prB s vs).map int)) at m4
    generalize prB s vs = K at *
    generalize topT s.toNat vs = T at *
    generalize cvT s vs = c at *
    generalize cwT s vs = w at *
    have tK : K.take K.length = K := List.take_length
    have tT : T.take T.length = T := List.take_length
    have z1 : (⟨#[118, 111, 116, 101, 114, 115, 32]⟩ : ByteArray).size = 7 := rfl
    have z2 : (⟨#[32, 119, 105, 110, 110, 101, 114, 32]⟩ : ByteArray).size = 8 := rfl
    have z3 : (⟨#[32, 116, 111, 112, 32]⟩ : ByteArray).size = 5 := rfl
    have z4 : (⟨#[32, 98, 101, 115, 116, 32]⟩ : ByteArray).size = 6 := rfl
    have c1 : 7 + (itoaS c).size ≤ 9223372036854775807 := by omega
    have c2 : 7 + (itoaS c).size + 8 ≤ 9223372036854775807 := by omega
    have c3 : 7 + (itoaS c).size + 8 + (itoaS w).size ≤ 9223372036854775807 := by omega
    have c4 : 7 + (itoaS c).size + 8 + (itoaS w).size + 5 ≤ 9223372036854775807 := by omega
    have c5 : 7 + (itoaS c).size + 8 + (itoaS w).size + 5 + (numS T).size ≤ 9223372036854775807 := by omega
    have c6 : 7 + (itoaS c).size + 8 + (itoaS w).size + 5 + (numS T).size + 6 ≤ 9223372036854775807 := by omega
    have c7 : 7 + (itoaS c).size + 8 + (itoaS w).size + 5 + (numS T).size + 6 + (frkT K).size ≤ 9223372036854775807 := by omega
    simp [Tryz.f9, List.range, List.range.loop, ints, intss, int, bool, row, frac, fracs, ← List.map_take, ← List.map_drop, andThen_n, freeze, frzA, frzAL, sets, prof, hpp, m1, m2, m3, m4, h1, h2, h3, h4, tK, tT, ByteArray.size_append, z1, z2, z3, z4, c1, c2, c3, c4, c5, c6, c7]
end Go.Proofs.YtkfmhpgnhkdebaaGreatDoor.Ax
