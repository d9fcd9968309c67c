/-
  Contracts: IsBetterLottery (both programs). No condition.
-/
import Derived.Test.YtkfmhpgnhkdebaaGreatDoorCG2
import Derived.Test.YtkfmhpgnhkdebaaGreatDoorCG1
import Derived.Test.YtkfmhpgnhkdebaaGreatDoorCG3
import Derived.Test.YtkfmhpgnhkdebaaGreatDoorCG11
import Derived.Test.YtkfmhpgnhkdebaaGreatDoorCG17
import Derived.Test.YtkfmhpgnhkdebaaGreatDoorCG18
import Derived.Test.YtkfmhpgnhkdebaaGreatDoorCG20
import Derived.Test.YtkfmhpgnhkdebaaGreatDoorCG10
namespace Go.Proofs.YtkfmhpgnhkdebaaGreatDoor.Ax
open Go Go.RowKit
set_option linter.unusedSimpArgs false
def inOrder (l : List Int) (a : List (Int × Int)) : List (Int × Int) := l.map fun i => a.getD i.toNat (0, 0)
theorem inOrder_len {l : List Int} {a : List (Int × Int)} : (inOrder l a).length = l.length := by simp [inOrder]
theorem inOrder_at {l : List Int} {a : List (Int × Int)} {k : Nat} (h : k < l.length) (hi : l[k].toNat < a.length) : (inOrder l a).getD k (0, 0) = a[l[k].toNat] := by
  simp [inOrder, List.getD_eq_getElem?_getD, h, hi]
theorem sumTo_take {fs : List (Int × Int)} {j : Nat} : ∀ {k : Nat}, k ≤ j → sumTo (fs.take j) k = sumTo fs k
  | 0, _ => rfl
  | k + 1, h => by
    rw [sumTo, sumTo, sumTo_take (by omega)]
    have : (fs.take j).getD k (0, 0) = fs.getD k (0, 0) := by
      rw [List.getD_eq_getElem?_getD, List.getD_eq_getElem?_getD, List.getElem?_take, if_pos (by omega)]
    rw [this]
def betAt (l : List Int) (a b : List (Int × Int)) (k : Nat) : Bool := (sumTo (inOrder l a) (k + 1)).2 && (sumTo (inOrder l b) (k + 1)).2 && !decide (cmpF (sumTo (inOrder l a) (k + 1)).1 (sumTo (inOrder l b) (k + 1)).1 = -1)
def betB (l : List Int) (a b : List (Int × Int)) : Bool := rankB l.length l && decide (l.length ≤ 4) && decide (a.length = l.length) && decide (b.length = l.length) && allR l.length (betAt l a b)
noncomputable def mBet : List AV → Option AV := mk (fun _ => True) (fun (p : (Bool) × (List Int) × (Bool) × (List (Int × Int)) × (Bool) × (List (Int × Int))) => [ints p.1 p.2.1, fracs p.2.2.1 p.2.2.2.1, fracs p.2.2.2.2.1 p.2.2.2.2.2]) (fun p => bool (betB p.2.1 p.2.2.2.1 p.2.2.2.2.2))
theorem mBet_at (nl : Bool) (l : List Int) (nl1 : Bool) (a : List (Int × Int)) (nl2 : Bool) (b : List (Int × Int)) : mBet [.sl nl 1 (l.map int), .sl nl1 2 (a.map frac), .sl nl2 2 (b.map frac)] = some (.v (.bool (betB l a b))) :=
  mk_eq (enc := fun (p : (Bool) × (List Int) × (Bool) × (List (Int × Int)) × (Bool) × (List (Int × Int))) => [ints p.1 p.2.1, fracs p.2.2.1 p.2.2.2.1, fracs p.2.2.2.2.1 p.2.2.2.2.2]) (x := (nl, l, nl1, a, nl2, b)) (by rintro ⟨a0, a1, a2, a3, a4, a5⟩ ⟨b0, b1, b2, b3, b4, b5⟩ h; simp [ints, intss, int, bool, row, frac, fracs, map_int_inj, map_row_inj, frac_inj, map_frac_inj] at h; simp [h]) trivial
def apA2 : Nat → AV
  | 0 => .sl true 1 []
  | k + 1 => .ref 0 [] 0 (k + 1)
def apB2 : Nat → AV
  | 0 => .sl true 1 []
  | k + 1 => .ref 1 [] 0 (k + 1)
def apT2 (l l' : List AV) : Nat → List Tok
  | 0 => []
  | _ + 1 => [⟨true, .sl false 2 l⟩, ⟨true, .sl false 2 l'⟩]
theorem take_snocF {fs : List (Int × Int)} {k : Nat} (h : k < fs.length) : (fs.take k).map frac ++ [frac fs[k]] = (fs.take (k + 1)).map frac := by
  rw [List.take_succ_eq_append_getElem h, List.map_append]; rfl
theorem sumF_take {fs : List (Int × Int)} {k : Nat} (h : k ≤ fs.length) (h2 : k ≤ 100) : sumF (fs.take k) = sumTo fs k := by
  unfold sumF
  rw [if_neg (by simp; omega)]
  rw [show (fs.take k).length = k by simp; omega, sumTo_take (Nat.le_refl _)]
set_option maxRecDepth 4000 in
set_option maxHeartbeats 8000000 in
theorem implBet_ok : FnOk Tryz.prog 36 mBet := by
  refine mk_ok fun ⟨nl, l, nl1, a, nl2, b⟩ _ => ?_
  have hG : FnsOk Tryz.prog [(99, mWithin), (110, mRank), (112, mSumF), (113, mLessF)] := (.cons within_ok (.cons implRankingOk_ok (.cons implSumF_ok (.cons less_ok .nil))))
  refine callOk_awp (ctx_ok eqOk hG) mixed (live := [true, true, true, false, false, false, true, true, true, true, false, true, true, true, true, true, false, false, false, false, false, false, false, false, false, false, false, false, false, false, false, false, false, false, false, false, false, false, true, true, true, true, true, false, false, false, false, false, false, false, false, false, false, false, false, false, false, false, false, false, false, false, false, false, false, false, false, false, false, false, false, false, false, false, false, false, false, false, false, true]) (dt := [(8, ⟨[(5, 10), (6, 10), (5, 11), (6, 11), (3, 12), (4, 12), (5, 12), (6, 12)], [0, 0, 0, 0, 0, 1, 1, 0, 0, 0, 0, 0, 1, 1], []⟩)]) Tryz.func36 rfl (by kernel_rfl) (by kernel_rfl) fun w0 hlens => ?_
  clear hlens
  cases h1 : rankB l.length l with
  | false =>
    cases h0 : inR 1 4 l.length <;> simp (config := {contextual := true}) [Tryz.f36, List.range, List.range.loop, ints, intss, int, bool, row, frac, fracs, ← List.map_take, ← List.map_drop, mWithin_in, mRank_at, h0, h1, betB]
  | true =>
  obtain ⟨n1, n2, _, hin, _⟩ := rank_facts h1
  cases h0 : inR 1 4 l.length with
  | false =>
    have : ¬ l.length ≤ 4 := by simp [inR] at h0; omega
    simp (config := {contextual := true}) [Tryz.f36, List.range, List.range.loop, ints, intss, int, bool, row, frac, fracs, ← List.map_take, ← List.map_drop, mWithin_in, mRank_at, h0, h1, betB, this]
  | true =>
  have h4 : l.length ≤ 4 := by simp [inR] at h0; omega
  by_cases h2 : a.length = l.length
  rotate_left
  · have h2' : ((a.length : Int) != (l.length : Int)) = true := by simp; omega
    simp (config := {contextual := true}) [Tryz.f36, List.range, List.range.loop, ints, intss, int, bool, row, frac, fracs, ← List.map_take, ← List.map_drop, mWithin_in, mRank_at, h0, h1, betB, h2, h2']
  by_cases h3 : b.length = l.length
  rotate_left
  · have h3' : ((b.length : Int) != (l.length : Int)) = true := by simp; omega
    simp (config := {contextual := true}) [Tryz.f36, List.range, List.range.loop, ints, intss, int, bool, row, frac, fracs, ← List.map_take, ← List.map_drop, mWithin_in, mRank_at, h0, h1, betB, h2, h3, h3']
  have hm : betB l a b = allR l.length (betAt l a b) := by simp [betB, h1, h2, h3, h4]
  generalize hres : betB l a b = r at hm
  have e2 : (a.length : Int) = l.length := by omega
  have e3 : (b.length : Int) = l.length := by omega
  simp (config := {contextual := true}) [Tryz.f36, List.range, List.range.loop, ints, intss, int, bool, row, frac, fracs, ← List.map_take, ← List.map_drop, mWithin_in, mRank_at, h0, h1, e2, e3]
  refine awp_range (live := [true, true, true, false, false, false, true, true, true, true, false, true, true, true, true, true, false, false, false, false, false, false, false, false, false, false, false, false, false, false, false, false, false, false, false, false, false, false, true, true, true, true, true, false, false, false, false, false, false, false, false, false, false, false, false, false, false, false, false, false, false, false, false, false, false, false, false, false, false, false, false, false, false, false, false, false, false, false, false, true]) (ctx_ok eqOk hG) mixed [false, true, true, false, false, false, false, false, true, true, false, false, false, false, false, false, false, false, false, false, false, false, false, false, false, false, false, false, false, false, false, false, false, false, false, false, false, false, false, true, true, true] (l.length) (fun k => upto (betAt l a b) k) (fun k => ⟨[.junk, fracs nl1 a, fracs nl2 b, .junk, .junk, .junk, .junk, .junk, apA2 k, apB2 k, .junk, .junk, .junk, .junk, .junk, .junk, .junk, .junk, .junk, .junk, .junk, .junk, .junk, .junk, .junk, .junk, .junk, .junk, .junk, .junk, .junk, .junk, .junk, .junk, .junk, .junk, .junk, .junk, .junk, ints nl l, int l.length, int k, .junk, .junk, .junk, .junk, .junk, .junk, .junk, .junk, .junk, .junk, .junk, .junk, .junk, .junk, .junk, .junk, .junk, .junk, .junk, .junk, .junk, .junk, .junk, .junk, .junk, .junk, .junk, .junk, .junk, .junk, .junk, .junk, .junk, .junk, .junk, .junk, .junk, .junk, .junk], apT2 (((inOrder l a).take k).map frac) (((inOrder l b).take k).map frac) k⟩) ?_ (by simp [sub, slotsLe, clean, keep, refsL, refs, once, place, renL, ren, List.replicate, int, bool, ints, fracs, apA2, apB2, apT2]) ?_ ?_ ?_
  · omega
  · exact upto_zero
  · intro k h hp hwk
    have hf : betAt l a b k = false → r = false := fun hf => by rw [hm, allR_no h hf]
    have ht := upto_succ hp
    have i0 := (hin k h).1
    have i1 := (hin k h).2
    have ia : l[k].toNat < a.length := by omega
    have ib : l[k].toNat < b.length := by omega
    have ka : k < (inOrder l a).length := by rw [inOrder_len]; exact h
    have kb : k < (inOrder l b).length := by rw [inOrder_len]; exact h
    have ta := take_snocF ka
    have tb := take_snocF kb
    have ga : (inOrder l a)[k] = a[l[k].toNat] := by have := inOrder_at h ia; rwa [List.getD_eq_getElem?_getD, List.getElem?_eq_getElem ka] at this
    have gb : (inOrder l b)[k] = b[l[k].toNat] := by have := inOrder_at h ib; rwa [List.getD_eq_getElem?_getD, List.getElem?_eq_getElem kb] at this
    rw [ga] at ta
    rw [gb] at tb
    have sa := mSumF_at false ((inOrder l a).take (k + 1))
    have sb := mSumF_at false ((inOrder l b).take (k + 1))
    rw [sumF_take (by omega) (by omega)] at sa sb
    have la : ((inOrder l a).take k).length = k := by simp; omega
    have lb : ((inOrder l b).take k).length = k := by simp; omega
    have la' : ((inOrder l a).take (k + 1)).length = k + 1 := by simp; omega
    have lb' : ((inOrder l b).take (k + 1)).length = k + 1 := by simp; omega
    have hb0 : betAt l a b k = ((sumTo (inOrder l a) (k + 1)).2 && (sumTo (inOrder l b) (k + 1)).2 && !decide (cmpF (sumTo (inOrder l a) (k + 1)).1 (sumTo (inOrder l b) (k + 1)).1 = -1)) := rfl
    rw [hb0] at hf ht
    clear hb0
    simp only [frac] at ta tb
    generalize sumTo (inOrder l a) (k + 1) = u at *
    generalize sumTo (inOrder l b) (k + 1) = v at *
    obtain ⟨⟨u1, u2⟩, ub⟩ := u
    obtain ⟨⟨v1, v2⟩, vb⟩ := v
    simp only at sa sb hf ht
    have hle := mLessF_at u1 u2 v1 v2
    generalize decide (cmpF (u1, u2) (v1, v2) = -1) = c at *
    generalize (inOrder l a).take (k + 1) = A' at *
    generalize (inOrder l b).take (k + 1) = B' at *
    generalize hA : (inOrder l a).take k = A at *
    generalize hB : (inOrder l b).take k = B at *
    have q1 : (k + 1) * 16 ≤ 140737488355328 := by omega
    have q2 : k + 1 ≤ 4611686018427387904 := by omega
    cases k with
    | zero =>
      have hA0 : A = [] := List.length_eq_zero_iff.1 la
      have hB0 : B = [] := List.length_eq_zero_iff.1 lb
      rw [hA0] at ta
      rw [hB0] at tb
      simp at ta tb hwk
      rw [← ta] at sa
      rw [← tb] at sb
      simp (config := {contextual := true, maxSteps := 1000000}) [List.range, List.range.loop, ints, intss, int, bool, row, frac, fracs, ← List.map_take, ← List.map_drop, h, hwk, i0, ia, ib, apA2, apB2, apT2, q1, q2, ← ta, ← tb, la', lb', sa, sb, hle]
      grind
    | succ k =>
      simp at hwk
      have ea : A'.take (k + 1 + 1) = A' := List.take_of_length_le (by omega)
      have eb : B'.take (k + 1 + 1) = B' := List.take_of_length_le (by omega)
      simp (config := {contextual := true, maxSteps := 1000000}) [List.range, List.range.loop, ints, intss, int, bool, row, frac, fracs, ← List.map_take, ← List.map_drop, h, hwk, ea, eb, i0, ia, ib, apA2, apB2, apT2, q1, q2, ta, tb, la, lb, la', lb', sa, sb, hle]
      grind
  · intro hp
    rw [allR_yes hp] at hm
    subst hm
    simp (config := {contextual := true}) [List.range, List.range.loop, ints, intss, int, bool, row, frac, fracs, ← List.map_take, ← List.map_drop]
end Go.Proofs.YtkfmhpgnhkdebaaGreatDoor.Ax
namespace Go.Proofs.YtkfmhpgnhkdebaaGreatDoor.Ax
open Go Go.RowKit
set_option linter.unusedSimpArgs false
end Go.Proofs.YtkfmhpgnhkdebaaGreatDoor.Ax
namespace Go.Proofs.YtkfmhpgnhkdebaaGreatDoor.Ax
open Go Go.RowKit
set_option linter.unusedSimpArgs false
def freeAt (xss : List (Bool × List Int)) (m : List (Bool × List (Int × Int))) (i k : Nat) : Bool := betB (xss.getD i (true, [])).2 (m.getD i (true, [])).2 (m.getD k (true, [])).2
def freeRow (xss : List (Bool × List Int)) (m : List (Bool × List (Int × Int))) (i : Nat) : Bool := allR m.length (freeAt xss m i)
def freeB (xss : List (Bool × List Int)) (m : List (Bool × List (Int × Int))) : Bool := housesB xss && lotB m && decide (xss.length = m.length) && allR xss.length (freeRow xss m)
noncomputable def mFree : List AV → Option AV := mk (fun _ => True) (fun (p : (Bool) × (List (Bool × List Int)) × (Bool) × (List (Bool × List (Int × Int)))) => [intss p.1 p.2.1, fracss p.2.2.1 p.2.2.2]) (fun p => bool (freeB p.2.1 p.2.2.2))
theorem mFree_at (nl : Bool) (xss : List (Bool × List Int)) (nl' : Bool) (m : List (Bool × List (Int × Int))) : mFree [.sl nl 1 (xss.map row), .sl nl' 1 (m.map frow)] = some (.v (.bool (freeB xss m))) :=
  mk_eq (enc := fun (p : (Bool) × (List (Bool × List Int)) × (Bool) × (List (Bool × List (Int × Int)))) => [intss p.1 p.2.1, fracss p.2.2.1 p.2.2.2]) (x := (nl, xss, nl', m)) (by rintro ⟨a0, a1, a2, a3⟩ ⟨b0, b1, b2, b3⟩ h; simp [ints, intss, int, bool, row, frac, fracs, map_int_inj, map_row_inj, frac_inj, map_frac_inj, fracss, map_frow_inj] at h; simp [h]) trivial
set_option maxHeartbeats 4000000 in
theorem implFree_ok : FnOk Tryz.prog 31 mFree := by
  refine mk_ok fun ⟨nl, xss, nl', m⟩ _ => ?_
  have hG : FnsOk Tryz.prog [(91, mHouses), (30, mLot), (36, mBet)] := (.cons implHouses_ok (.cons implLot_ok (.cons implBet_ok .nil)))
  refine callOk_awp (ctx_ok eqOk hG) mixed (live := [true, true, false, false, true, true, true, true, false, false, false, false, false, false, false, false, false, false, false, false, false, false, true, true, true, true, true, false, false, false, false, true, true, true, false, false, false, false, false, false, false, false, false, false, false, true]) (dt := [(9, ⟨[], [], []⟩)]) Tryz.func31 rfl (by kernel_rfl) (by kernel_rfl) fun w0 hlens => ?_
  have hlx := (lens_intss.1 hlens.1).1.1
  have hlm := (lens_fracss.1 hlens.2.1).1.1
  clear hlens
  cases h1 : housesB xss with
  | false => simp (config := {contextual := true}) [Tryz.f31, List.range, List.range.loop, ints, intss, int, bool, row, frac, fracs, ← List.map_take, ← List.map_drop, fracss, frow, mHouses_at, h1, freeB]
  | true =>
  cases h2 : lotB m with
  | false => simp (config := {contextual := true}) [Tryz.f31, List.range, List.range.loop, ints, intss, int, bool, row, frac, fracs, ← List.map_take, ← List.map_drop, fracss, frow, mHouses_at, mLot_at, h1, h2, freeB]
  | true =>
  by_cases h3 : xss.length = m.length
  rotate_left
  · have h3' : ((xss.length : Int) != (m.length : Int)) = true := by simp; omega
    simp (config := {contextual := true}) [Tryz.f31, List.range, List.range.loop, ints, intss, int, bool, row, frac, fracs, ← List.map_take, ← List.map_drop, fracss, frow, mHouses_at, mLot_at, h1, h2, h3, h3', freeB]
  have hm : freeB xss m = allR xss.length (freeRow xss m) := by simp only [freeB, h1, h2, h3]; simp
  generalize hres : freeB xss m = r at hm
  have h3i : (m.length : Int) = xss.length := by omega
  simp (config := {contextual := true}) [Tryz.f31, List.range, List.range.loop, ints, intss, int, bool, row, frac, fracs, ← List.map_take, ← List.map_drop, fracss, frow, mHouses_at, mLot_at, h1, h2, h3i]
  refine awp_range (live := [true, true, false, false, true, true, true, true, false, false, false, false, false, false, false, false, false, false, false, false, false, false, true, true, true, true, true, false, false, false, false, true, true, true, false, false, false, false, false, false, false, false, false, false, false, true]) (ctx_ok eqOk hG) mixed [false, true, false, false, false, false, false, false, false, false, false, false, false, false, false, false, false, false, false, false, false, false, false, true, true, true] (xss.length) (fun i => upto (freeRow xss m) i) (fun i => ⟨[.junk, fracss nl' m, .junk, .junk, .junk, .junk, .junk, .junk, .junk, .junk, .junk, .junk, .junk, .junk, .junk, .junk, .junk, .junk, .junk, .junk, .junk, .junk, .junk, intss nl xss, int xss.length, int i, .junk, .junk, .junk, .junk, .junk, .junk, .junk, .junk, .junk, .junk, .junk, .junk, .junk, .junk, .junk, .junk, .junk, .junk, .junk, .junk, .junk, .junk], []⟩) ?_ (by simp [sub, slotsLe, clean, keep, refsL, refs, once, place, renL, ren, List.replicate, int, bool, intss, fracss]) ?_ ?_ ?_
  · exact hlx
  · exact upto_zero
  · intro i h hp hwi
    have hf : freeRow xss m i = false → r = false := fun hf => by rw [hm, allR_no h hf]
    have ht := upto_succ hp
    have him : i < m.length := by omega
    simp (config := {contextual := true}) [List.range, List.range.loop, ints, intss, int, bool, row, frac, fracs, ← List.map_take, ← List.map_drop, fracss, frow, h]
    refine awp_range (live := [true, true, false, false, true, true, true, true, false, false, false, false, false, false, false, false, false, false, false, false, false, false, true, true, true, true, true, false, false, false, false, true, true, true, false, false, false, false, false, false, false, false, false, false, false, true]) (ctx_ok eqOk hG) mixed [false, true, false, false, false, true, true, false, false, false, false, false, false, false, false, false, false, false, false, false, false, false, false, true, true, true, false, false, false, false, false, true, true] (m.length) (fun k => upto (freeAt xss m i) k) (fun k => ⟨[.junk, fracss nl' m, .junk, .junk, .junk, int i, row xss[i], .junk, .junk, .junk, .junk, .junk, .junk, .junk, .junk, .junk, .junk, .junk, .junk, .junk, .junk, .junk, .junk, intss nl xss, int xss.length, int i, .junk, .junk, .junk, .junk, .junk, int m.length, int k, .junk, .junk, .junk, .junk, .junk, .junk, .junk, .junk, .junk, .junk, .junk, .junk, .junk, .junk, .junk], []⟩) ?_ (by simp [sub, slotsLe, clean, keep, refsL, refs, once, place, renL, ren, List.replicate, int, bool, intss, fracss, row]) ?_ ?_ ?_
    · exact hlm
    · exact upto_zero
    · intro k hk hpk hwk
      have hf2 : freeAt xss m i k = false → r = false := fun hf2 => hf (allR_no hk hf2)
      have ht2 := upto_succ hpk
      have e : freeAt xss m i k = betB xss[i].2 m[i].2 m[k].2 := by unfold freeAt; simp [List.getD_eq_getElem?_getD, h, hk, him]
      rw [e] at hf2 ht2
      cases hi : betB xss[i].2 m[i].2 m[k].2 with
      | false => rw [hf2 hi]; simp [List.range, List.range.loop, ints, intss, int, bool, row, frac, fracs, ← List.map_take, ← List.map_drop, fracss, frow, h, hk, him, hwk, mBet_at, hi]
      | true => simp [List.range, List.range.loop, ints, intss, int, bool, row, frac, fracs, ← List.map_take, ← List.map_drop, fracss, frow, h, hk, him, hwk, mBet_at, hi, ht2 hi]
    · intro hpk
      have := ht (allR_yes hpk)
      simp (config := {contextual := true}) [List.range, List.range.loop, ints, intss, int, bool, row, frac, fracs, ← List.map_take, ← List.map_drop, fracss, frow, h, hwi, this]
  · intro hp
    rw [allR_yes hp] at hm
    subst hm
    simp (config := {contextual := true}) [List.range, List.range.loop, ints, intss, int, bool, row, frac, fracs, ← List.map_take, ← List.map_drop]
end Go.Proofs.YtkfmhpgnhkdebaaGreatDoor.Ax
namespace Go.Proofs.YtkfmhpgnhkdebaaGreatDoor.Ax
open Go Go.RowKit
set_option linter.unusedSimpArgs false
def fNat (n : Nat) (k : Nat → Bool) : Bool := Nat.rec (motive := fun _ => Bool) (k 0) (fun m _ => k (m + 1)) n
theorem fNat_eq {n : Nat} {k : Nat → Bool} : fNat n k = k n := by cases n <;> rfl
def fInt : Int → (Int → Bool) → Bool
  | .ofNat n, k => fNat n fun m => k (.ofNat m)
  | .negSucc n, k => fNat n fun m => k (.negSucc m)
theorem fInt_eq {n : Int} {k : Int → Bool} : fInt n k = k n := by
  cases n with
  | ofNat m => exact fNat_eq (k := fun m => k (.ofNat m))
  | negSucc m => exact fNat_eq (k := fun m => k (.negSucc m))
def fBool : Bool → (Bool → Bool) → Bool
  | true, k => k true
  | false, k => k false
theorem fBool_eq {b : Bool} {k : Bool → Bool} : fBool b k = k b := by cases b <;> rfl
def fLs {α : Type} (f : α → (α → Bool) → Bool) : List α → (List α → Bool) → Bool
  | [], k => k []
  | x :: xs, k => f x fun y => fLs f xs fun ys => k (y :: ys)
theorem fLs_eq {α : Type} {f : α → (α → Bool) → Bool} (h : ∀ x k, f x k = k x) : ∀ {l : List α} {k : List α → Bool}, fLs f l k = k l
  | [], _ => rfl
  | x :: xs, k => by
    unfold fLs
    rw [h]
    exact fLs_eq h
def fFr : Int × Int → (Int × Int → Bool) → Bool
  | (a, b), k => fInt a fun a => fInt b fun b => k (a, b)
theorem fFr_eq (x : Int × Int) (k : Int × Int → Bool) : fFr x k = k x := by obtain ⟨a, b⟩ := x; simp [fFr, fInt_eq]
def fRow : Bool × List (Int × Int) → (Bool × List (Int × Int) → Bool) → Bool
  | (b, l), k => fBool b fun b => fLs fFr l fun l => k (b, l)
theorem fRow_eq (x : Bool × List (Int × Int)) (k : Bool × List (Int × Int) → Bool) : fRow x k = k x := by obtain ⟨a, b⟩ := x; simp [fRow, fBool_eq, fLs_eq fFr_eq]
def fTk : Tk → (Tk → Bool) → Bool
  | (w, b, l), k => fFr w fun w => fBool b fun b => fLs (fun n k => fInt n k) l fun l => k (w, b, l)
theorem fTk_eq (x : Tk) (k : Tk → Bool) : fTk x k = k x := by obtain ⟨a, b, c⟩ := x; simp [fTk, fFr_eq, fBool_eq, fLs_eq fun x k => fInt_eq]
def rowsOf (R : List (Bool × List Int)) : Nat → List (List (Bool × List Int))
  | 0 => [[]]
  | k + 1 => (rowsOf R k).flatMap fun l => R.map fun r => r :: l
def frA (m : Tab) (i : Nat) : List (Int × Int) := (m.getD i (true, [])).2
def rwA (xss : List (Bool × List Int)) (i : Nat) : List Int := (xss.getD i (true, [])).2
def lotS3 (xss : List (Bool × List Int)) (m : Tab) (S : List Tk) (ok : Bool) : Bool :=
  ok && inR 1 30 S.length && S.all (tkB xss.length) && decide (mixA S xss.length = m) && decide (S.length ≤ xss.length * xss.length)
    && allR xss.length fun i => decide ((frA m i).length = xss.length) && allR xss.length fun k => !decide (rwA xss i = rwA xss k) || decide (frA m i = frA m k)
def lotK (xss : List (Bool × List Int)) (m : Tab) : Bool := lotB m && decide (m.length = xss.length) && fLs fTk (splT m).1 fun S => lotS3 xss m S (splT m).2
def lotL (xss : List (Bool × List Int)) : Bool :=
  housesB xss && inR 1 30 (rserK xss).length && (rserK xss).all (tkB xss.length) && fLs fRow (mixA (rserK xss) xss.length) fun A => fLs fRow (eatT xss) fun B =>
    lotK xss A && lotK xss B && (allR xss.length fun i => allR xss.length fun k => betB (rwA xss i) (frA B i) (frA B k)) && allR xss.length fun i => betB (rwA xss i) (frA A i) (frA A i)
def lots3 (k : Nat) : Bool := (((rowsOf (allRk 3) 3).drop (12 * k)).take 12).all lotL
end Go.Proofs.YtkfmhpgnhkdebaaGreatDoor.Ax
namespace Go.Proofs.YtkfmhpgnhkdebaaGreatDoor.Ax
set_option maxRecDepth 100000 in
theorem lot1 : (rowsOf (allRk 1) 1).all lotL = true := by decide +kernel
set_option maxRecDepth 100000 in
theorem lot2 : (rowsOf (allRk 2) 2).all lotL = true := by decide +kernel
set_option maxRecDepth 100000 in
theorem lot3_0 : lots3 0 = true := by decide +kernel
set_option maxRecDepth 100000 in
theorem lot3_1 : lots3 1 = true := by decide +kernel
set_option maxRecDepth 100000 in
theorem lot3_2 : lots3 2 = true := by decide +kernel
set_option maxRecDepth 100000 in
theorem lot3_3 : lots3 3 = true := by decide +kernel
set_option maxRecDepth 100000 in
theorem lot3_4 : lots3 4 = true := by decide +kernel
set_option maxRecDepth 100000 in
theorem lot3_5 : lots3 5 = true := by decide +kernel
end Go.Proofs.YtkfmhpgnhkdebaaGreatDoor.Ax
namespace Go.Proofs.YtkfmhpgnhkdebaaGreatDoor.Ax
set_option maxRecDepth 100000 in
theorem lot3_6 : lots3 6 = true := by decide +kernel
set_option maxRecDepth 100000 in
theorem lot3_7 : lots3 7 = true := by decide +kernel
set_option maxRecDepth 100000 in
theorem lot3_8 : lots3 8 = true := by decide +kernel
set_option maxRecDepth 100000 in
theorem lot3_9 : lots3 9 = true := by decide +kernel
set_option maxRecDepth 100000 in
theorem lot3_10 : lots3 10 = true := by decide +kernel
set_option maxRecDepth 100000 in
theorem lot3_11 : lots3 11 = true := by decide +kernel
end Go.Proofs.YtkfmhpgnhkdebaaGreatDoor.Ax
namespace Go.Proofs.YtkfmhpgnhkdebaaGreatDoor.Ax
set_option maxRecDepth 100000 in
theorem lot3_12 : lots3 12 = true := by decide +kernel
set_option maxRecDepth 100000 in
theorem lot3_13 : lots3 13 = true := by decide +kernel
set_option maxRecDepth 100000 in
theorem lot3_14 : lots3 14 = true := by decide +kernel
set_option maxRecDepth 100000 in
theorem lot3_15 : lots3 15 = true := by decide +kernel
set_option maxRecDepth 100000 in
theorem lot3_16 : lots3 16 = true := by decide +kernel
set_option maxRecDepth 100000 in
theorem lot3_17 : lots3 17 = true := by decide +kernel
end Go.Proofs.YtkfmhpgnhkdebaaGreatDoor.Ax
namespace Go.Proofs.YtkfmhpgnhkdebaaGreatDoor.Ax
open Go Go.RowKit
set_option linter.unusedSimpArgs false
theorem lots_all {l : List (List (Bool × List Int))} : ∀ {n : Nat}, (∀ k, k < n → (((l.drop (12 * k)).take 12).all lotL) = true) → (l.take (12 * n)).all lotL = true
  | 0, _ => by simp
  | n + 1, h => by
    have h1 := lots_all (n := n) fun k hk => h k (by omega)
    have h2 := h n (by omega)
    rw [show 12 * (n + 1) = 12 * n + 12 by omega, List.take_add, List.all_append, h1, h2]; rfl
theorem lots_len : (rowsOf (allRk 3) 3).length = 216 := by decide +kernel
theorem lot3 : (rowsOf (allRk 3) 3).all lotL = true := by
  have h := lots_all (l := rowsOf (allRk 3) 3) (n := 18) fun k hk => by
    match k, hk with
    | 0, _ => exact lot3_0
    | 1, _ => exact lot3_1
    | 2, _ => exact lot3_2
    | 3, _ => exact lot3_3
    | 4, _ => exact lot3_4
    | 5, _ => exact lot3_5
    | 6, _ => exact lot3_6
    | 7, _ => exact lot3_7
    | 8, _ => exact lot3_8
    | 9, _ => exact lot3_9
    | 10, _ => exact lot3_10
    | 11, _ => exact lot3_11
    | 12, _ => exact lot3_12
    | 13, _ => exact lot3_13
    | 14, _ => exact lot3_14
    | 15, _ => exact lot3_15
    | 16, _ => exact lot3_16
    | 17, _ => exact lot3_17
    | k + 18, hk => omega
  rwa [List.take_of_length_le (by rw [lots_len]; omega)] at h
def hsN (by' : List Int) (s : Int × Int) (q : Nat) : Nat := (1 + bw by' s q).toNat
theorem hsN_bd {by' : List Int} {s : Int × Int} {q : Nat} (h : 0 < q) : 1 ≤ hsN by' s q ∧ hsN by' s q ≤ q ∧ 1 + bw by' s q = (hsN by' s q : Int) := by
  have := bw_bd (by' := by') (s := s) (n := q) h
  unfold hsN; omega
def hsR (by' : List Int) (s : Int × Int) (n i : Nat) : Bool × List Int := (false, rkD by' (crN by' s (1 + i * (n - 1))) n (n - 1))
def hsD (by' : List Int) (s : Int × Int) (n k : Nat) : List (Bool × List Int) := (List.range k).map (hsR by' s n)
theorem hsD_succ {by' : List Int} {s : Int × Int} {n k : Nat} : hsD by' s n (k + 1) = hsD by' s n k ++ [hsR by' s n k] := by unfold hsD; rw [List.range_succ, List.map_append]; rfl
theorem hsD_len {by' : List Int} {s : Int × Int} {n k : Nat} : (hsD by' s n k).length = k := by simp [hsD]
set_option maxRecDepth 8000 in
set_option maxHeartbeats 4000000 in
theorem l22Draw_cur {nl : Bool} {by' : List Int} {s : Int × Int} (hs : CrOk by' s) {q : Nat} (h1 : 1 ≤ q) (h5 : q ≤ 5) : CurOk Tryz.prog 90 (byts nl by') 179 [int q] s (crN by' s (1 + hsN by' s q * (hsN by' s q - 1))) (.sl false 1 ((hsD by' s (hsN by' s q) (hsN by' s q)).map row)) := by
  have hcur := l01Below_cur (nl := nl) hs (n := q) (by omega) (by omega)
  have hn := hsN_bd (by' := by') (s := s) (q := q) (by omega)
  generalize hsN by' s q = n at *
  have hrk := fun (k : Nat) => l03Draw_cur (nl := nl) (crN_ok hs k) (m := n) (by omega) (by omega)
  have hG : FnsOk Tryz.prog [] := .nil
  refine curOk_of_ty (dt := []) (ctx_ok eqOk hG) Tryz.func90 rfl (by kernel_rfl) (by kernel_rfl) fun w F0 code b hbytes hF0 hbF => ?_
  refine ty_seq (ty_awp (ctx_ok eqOk hG) mixed curJ_stable (live := [true, true, false, false, true, true, true, true, false, false, false, false, false, false, false, true]) fun X A w1 => ?_)
  simp [Tryz.f90, List.range, List.range.loop, ints, intss, int, bool, row, frac, fracs, ← List.map_take, ← List.map_drop, thenY_normal]
  refine ty_seq (ty_reg (tyo_ops 2 (ctx_ok eqOk hG) curJ_stable (by simp) ?_))
  simp [List.range, List.range.loop, ints, intss, int, bool, row, frac, fracs, ← List.map_take, ← List.map_drop]
  refine tyo_cur hbytes hF0 hbF hcur rfl rfl rfl (by rfl) (by rfl) (by rfl) ?_
  simp [List.range, List.range.loop, ints, intss, int, bool, row, frac, fracs, ← List.map_take, ← List.map_drop]
  refine tyo_ops 2 (ctx_ok eqOk hG) curJ_stable (by simp) ?_
  have e0 : IntKind.i64.wrap (1 + bw by' s q) = (n : Int) := by rw [hn.2.2]; exact wrapI (by omega) (by omega)
  simp [List.range, List.range.loop, ints, intss, int, bool, row, frac, fracs, ← List.map_take, ← List.map_drop, e0]
  refine tyo_end (by simp) ?_
  simp only [thenY_normal]
  refine ty_seq (ty_awp (ctx_ok eqOk hG) mixed curJ_stable (live := [true, true, false, false, true, true, true, true, false, false, false, false, false, false, false, true]) fun X A w1 => ?_)
  simp [List.range, List.range.loop, ints, intss, int, bool, row, frac, fracs, ← List.map_take, ← List.map_drop, thenY_normal]
  refine ty_seq (ty_seq (ty_awp (ctx_ok eqOk hG) mixed curJ_stable (live := [true, true, false, false, true, true, true, true, false, false, false, false, false, false, false, true]) fun X A w1 => ?_))
  simp [List.range, List.range.loop, ints, intss, int, bool, row, frac, fracs, ← List.map_take, ← List.map_drop, thenY_normal]
  refine ty_block (ty_loop (α := {i : Nat // i ≤ n}) (fun i => ⟨[.v (ptrV b), .junk, .junk, .junk, .junk, int n, .ref 0 [] 0 i.1, int i.1, .junk, .junk, .junk, .junk, .junk, .junk, .junk, .junk, .junk, .junk, .junk, .junk, .junk, .junk, .junk, .junk, .junk], [⟨true, .sl false 1 ((hsD by' s n i.1).map row)⟩]⟩) (fun i => crN by' s (1 + i.1 * (n - 1))) (fun i => n - i.1) ⟨0, Nat.zero_le _⟩ ⟨?_, ?_⟩ ?_)
  · simp [sub, slotsLe, clean, keep, refsL, refs, once, place, renL, ren, List.replicate, int, bool, hsD]
  · simp [crN]
  rintro ⟨i, hi⟩
  have hvl := hsD_len (by' := by') (s := s) (n := n) (k := i)
  by_cases hin : i < n
  rotate_left
  · obtain rfl : i = n := by omega
    refine ty_seq (ty_awp (ctx_ok eqOk hG) mixed curJ_stable (live := [true, true, false, false, true, true, true, true, false, false, false, false, false, false, false, true]) fun X A w1 => ?_)
    simp [List.range, List.range.loop, ints, intss, int, bool, row, frac, fracs, ← List.map_take, ← List.map_drop, thenY_normal, thenY_exit, inBY_exit]
    refine ty_awp (ctx_ok eqOk hG) mixed curJ_stable (live := [true, true, false, false, true, true, true, true, false, false, false, false, false, false, false, true]) fun X A w1 => ?_
    simp [List.range, List.range.loop, ints, intss, int, bool, row, frac, fracs, ← List.map_take, ← List.map_drop, thenY_ret, hvl]
  have hst := hsD_succ (by' := by') (s := s) (n := n) (k := i)
  have hr : hsR by' s n i = (false, rkD by' (crN by' s (1 + i * (n - 1))) n (n - 1)) := rfl
  have hrk := hrk (1 + i * (n - 1))
  rw [crN_add, show 1 + i * (n - 1) + (n - 1) = 1 + (i + 1) * (n - 1) by rw [Nat.add_mul]; omega] at hrk
  obtain ⟨q1, _, _⟩ := rkD_ok (by' := by') (s := crN by' s (1 + i * (n - 1))) (m := n) (t := n - 1) (by omega)
  rw [hr] at hst
  generalize rkD by' (crN by' s (1 + i * (n - 1))) n (n - 1) = R at *
  have hini : (i : Int) < (n : Int) := by omega
  have hbb : i + 1 ≤ 4611686018427387904 ∧ (i + 1) * 24 ≤ 140737488355328 := by omega
  have hw1 : IntKind.i64.wrap ((i : Int) + 1) = (i : Int) + 1 := wrapI (by omega) (by omega)
  refine ty_seq (ty_awp (ctx_ok eqOk hG) mixed curJ_stable (live := [true, true, false, false, true, true, true, true, false, false, false, false, false, false, false, true]) fun X A w1 => ?_)
  simp [List.range, List.range.loop, ints, intss, int, bool, row, frac, fracs, ← List.map_take, ← List.map_drop, thenY_normal, hini, hin]
  refine ty_seq (ty_block (ty_reg (tyo_ops 3 (ctx_ok eqOk hG) curJ_stable (by simp) ?_)))
  simp [List.range, List.range.loop, ints, intss, int, bool, row, frac, fracs, ← List.map_take, ← List.map_drop]
  refine tyo_cur hbytes hF0 hbF hrk rfl rfl rfl (by rfl) (by rfl) (by rfl) ?_
  simp [List.range, List.range.loop, ints, intss, int, bool, row, frac, fracs, ← List.map_take, ← List.map_drop]
  refine tyo_ops 3 (ctx_ok eqOk hG) curJ_stable (by simp) ?_
  simp [List.range, List.range.loop, ints, intss, int, bool, row, frac, fracs, ← List.map_take, ← List.map_drop, hvl, q1, hbb]
  refine tyo_end (by simp) ?_
  simp only [thenY_normal, inBY_normal]
  refine ty_awp (ctx_ok eqOk hG) mixed curJ_stable (live := [true, true, false, false, true, true, true, true, false, false, false, false, false, false, false, true]) fun X A w1 => ?_
  simp [List.range, List.range.loop, ints, intss, int, bool, row, frac, fracs, ← List.map_take, ← List.map_drop, thenY_normal, hw1]
  refine ⟨⟨i + 1, hin⟩, ?_, rfl, by simp; omega⟩
  simp [sub, slotsLe, clean, keep, refsL, refs, once, place, renL, ren, List.replicate, int, bool, hst, row]
def mkHs (by' : List Int) : List (Bool × List Int) := hsD by' (crB by' 0) (hsN by' (crB by' 0) 3) (hsN by' (crB by' 0) 3)
theorem makeHouses_call {nl : Bool} {by' : List Int} (hlen : by'.length ≤ 1048576) : CallOk Tryz.prog 26 [byts nl by', int 0, int 3] (.sl false 1 ((mkHs by').map row)) := by
  have hnew := l32New_new (nl := nl) hlen 0 (by omega)
  have hok : CrOk by' (crB by' 0) := crN_ok (cr0_ok hlen) 0
  have hmk : mkHs by' = hsD by' (crB by' 0) (hsN by' (crB by' 0) 3) (hsN by' (crB by' 0) 3) := rfl
  rw [hmk]
  generalize crB by' 0 = S at *
  have hcur := l22Draw_cur (nl := nl) hok (q := 3) (by omega) (by omega)
  have hG : FnsOk Tryz.prog [] := .nil
  refine callOk_of_new (s1 := crN by' S (1 + hsN by' S 3 * (hsN by' S 3 - 1))) Tryz.func26 rfl (by kernel_rfl) (new_fn (dt := []) (ctx_ok eqOk hG) Tryz.func26 rfl (by kernel_rfl) rfl (by rfl) (pre := [_, _]) rfl rfl rfl (by rfl) (by rfl) (by rfl) (by rfl) hnew fun w F0 B0 code b hbytes hF0 hbF => ?_)
  simp [Tryz.f26, List.range, List.range.loop, ints, intss, int, bool, row, frac, fracs, ← List.map_take, ← List.map_drop, byts]
  refine tyo_ops 3 (ctx_ok eqOk hG) curJ_stable (by simp) ?_
  simp [List.range, List.range.loop, ints, intss, int, bool, row, frac, fracs, ← List.map_take, ← List.map_drop]
  refine tyo_cur hbytes hF0 hbF hcur rfl rfl rfl (by rfl) (by rfl) (by rfl) ?_
  simp [List.range, List.range.loop, ints, intss, int, bool, row, frac, fracs, ← List.map_take, ← List.map_drop]
  refine tyo_ops 1 (ctx_ok eqOk hG) curJ_stable (by simp) ?_
  simp [List.range, List.range.loop, ints, intss, int, bool, row, frac, fracs, ← List.map_take, ← List.map_drop]
  refine tyo_end (by simp) ?_
  simp only [thenY_normal]
  refine ty_awp (ctx_ok eqOk hG) mixed curJ_stable (live := [true, true, true, false, false, false, true]) fun X A w1 => ?_
  simp [List.range, List.range.loop, ints, intss, int, bool, row, frac, fracs, ← List.map_take, ← List.map_drop, thenY_ret]
noncomputable def mMkHs : List AV → Option AV := mk (fun p => p.2.length ≤ 1048576) (fun (p : Bool × List Int) => [byts p.1 p.2, int 0, int 3]) (fun p => .sl false 1 ((mkHs p.2).map row))
theorem mMkHs_at (nl : Bool) (by' : List Int) (h : by'.length ≤ 1048576) : mMkHs [.sl nl 1 (by'.map bAV), .v (.int .i64 0), .v (.int .i64 3)] = some (.sl false 1 ((mkHs by').map row)) :=
  mk_eq (enc := fun (p : Bool × List Int) => [byts p.1 p.2, int 0, int 3]) (x := (nl, by')) (by rintro ⟨a, b⟩ ⟨c, d⟩ h; simp [byts, map_bAV_inj] at h; simp [h]) h
theorem makeHouses_ok : FnOk Tryz.prog 26 mMkHs := by
  refine mk_ok fun ⟨nl, by'⟩ h => ?_
  exact makeHouses_call h
theorem mem_rk1 : (false, [(0 : Int)]) ∈ allRk 1 := by decide +kernel
theorem mem_rk2' : ((List.range 2).all fun a => (List.range 2).all fun b => a == b || decide ((false, [(a : Int), (b : Int)]) ∈ allRk 2)) = true := by decide +kernel
theorem mem_rk2 (a : Nat) (ha : a < 2) (b : Nat) (hb : b < 2) (h : a ≠ b) : (false, [(a : Int), (b : Int)]) ∈ allRk 2 := by
  have := List.all_eq_true.1 (List.all_eq_true.1 mem_rk2' a (List.mem_range.2 ha)) b (List.mem_range.2 hb)
  simpa [h] using this
theorem mem_rk3' : ((List.range 3).all fun a => (List.range 3).all fun b => (List.range 3).all fun c => a == b || a == c || b == c || decide ((false, [(a : Int), (b : Int), (c : Int)]) ∈ allRk 3)) = true := by decide +kernel
theorem mem_rk3 (a : Nat) (ha : a < 3) (b : Nat) (hb : b < 3) (c : Nat) (hc : c < 3) (h1 : a ≠ b) (h2 : a ≠ c) (h3 : b ≠ c) : (false, [(a : Int), (b : Int), (c : Int)]) ∈ allRk 3 := by
  have := List.all_eq_true.1 (List.all_eq_true.1 (List.all_eq_true.1 mem_rk3' a (List.mem_range.2 ha)) b (List.mem_range.2 hb)) c (List.mem_range.2 hc)
  simpa [h1, h2, h3] using this
theorem mem_rk {n : Nat} (h1 : 1 ≤ n) (h3 : n ≤ 3) {r : List Int} (hl : r.length = n) (hb : ∀ x ∈ r, 0 ≤ x ∧ x < (n : Int)) (hn : r.Nodup) : (false, r) ∈ allRk n := by
  have key : ∀ x ∈ r, ∃ a : Nat, x = a ∧ a < n := fun x hx => by have := hb x hx; exact ⟨x.toNat, by omega, by omega⟩
  match n, r, hl with
  | 1, [x], _ =>
    obtain ⟨a, rfl, ha⟩ := key x (by simp)
    obtain rfl : a = 0 := by omega
    exact mem_rk1
  | 2, [x, y], _ =>
    obtain ⟨a, rfl, ha⟩ := key x (by simp)
    obtain ⟨b, rfl, hb'⟩ := key y (by simp)
    simp at hn
    exact mem_rk2 a ha b hb' (by omega)
  | 3, [x, y, z], _ =>
    obtain ⟨a, rfl, ha⟩ := key x (by simp)
    obtain ⟨b, rfl, hb'⟩ := key y (by simp)
    obtain ⟨c, rfl, hc⟩ := key z (by simp)
    simp at hn
    exact mem_rk3 a ha b hb' c hc (by omega) (by omega) (by omega)
  | 0, _, _ => omega
  | n + 4, _, _ => omega
theorem mem_rows {R : List (Bool × List Int)} : ∀ {l : List (Bool × List Int)}, (∀ r ∈ l, r ∈ R) → l ∈ rowsOf R l.length
  | [], _ => by simp [rowsOf]
  | r :: l, h => by
    have := mem_rows (R := R) (l := l) fun x hx => h x (by simp [hx])
    simp only [List.length_cons, rowsOf, List.mem_flatMap, List.mem_map]
    exact ⟨l, this, r, h r (by simp), rfl⟩
theorem mkHs_len {by' : List Int} : 1 ≤ (mkHs by').length ∧ (mkHs by').length ≤ 3 := by
  have := hsN_bd (by' := by') (s := crB by' 0) (q := 3) (by omega)
  unfold mkHs
  rw [hsD_len]; omega
theorem mkHs_ok (by' : List Int) : lotL (mkHs by') = true := by
  have hl := mkHs_len (by' := by')
  have hn : (mkHs by').length = hsN by' (crB by' 0) 3 := hsD_len
  have hbd := hsN_bd (by' := by') (s := crB by' 0) (q := 3) (by omega)
  have hall : ∀ r ∈ mkHs by', r ∈ allRk (mkHs by').length := fun r hr => by
    obtain ⟨i, _, rfl⟩ := List.mem_map.1 hr
    rw [hn]
    clear hr hn hl
    generalize hsN by' (crB by' 0) 3 = n at *
    obtain ⟨a, b, c⟩ := rkD_ok (by' := by') (s := crN by' (crB by' 0) (1 + i * (n - 1))) (m := n) (t := n - 1) (by omega)
    exact mem_rk (by omega) (by omega) a b c
  have hm := mem_rows hall
  have h3 : (mkHs by').length = 1 ∨ (mkHs by').length = 2 ∨ (mkHs by').length = 3 := by omega
  rcases h3 with e | e | e
  · rw [e] at hm; exact List.all_eq_true.1 lot1 _ hm
  · rw [e] at hm; exact List.all_eq_true.1 lot2 _ hm
  · rw [e] at hm; exact List.all_eq_true.1 lot3 _ hm
end Go.Proofs.YtkfmhpgnhkdebaaGreatDoor.Ax
