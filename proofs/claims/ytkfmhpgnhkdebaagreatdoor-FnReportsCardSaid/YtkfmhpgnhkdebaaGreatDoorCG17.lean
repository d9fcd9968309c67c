/-
  Contracts: claims are compared (both programs). No condition.
-/
import Derived.Test.YtkfmhpgnhkdebaaGreatDoorCG16
import Derived.Test.YtkfmhpgnhkdebaaGreatDoorCG15
namespace Go.Proofs.YtkfmhpgnhkdebaaGreatDoor.Ax
open Go Go.RowKit
set_option linter.unusedSimpArgs false
structure ClI (me x a : Int) : Prop where
  m : 1 ≤ me ∧ me ≤ 5
  x : 0 ≤ x ∧ x ≤ 1000000
  a : 0 ≤ a ∧ a ≤ 100
theorem mul_bd0 {x y m n : Int} (hx : 0 ≤ x ∧ x ≤ m) (hy : 0 ≤ y ∧ y ≤ n) : 0 ≤ x * y ∧ x * y ≤ m * n :=
  ⟨Int.mul_nonneg hx.1 hy.1, Int.mul_le_mul hx.2 hy.2 hy.1 (by omega)⟩
theorem clm_bd {me x a : Int} (h : ClI me x a) : (0 ≤ (clm me x a).1 ∧ (clm me x a).1 ≤ 1000000000000) ∧ (0 ≤ (clm me x a).2 ∧ (clm me x a).2 ≤ 20200) := by
  obtain ⟨hm, hx, ha⟩ := h
  have e1 := mul_bd0 hx (show 0 ≤ 2 * a + 1 ∧ 2 * a + 1 ≤ 201 by omega)
  have e2 := mul_bd0 (show 0 ≤ 2 * a ∧ 2 * a ≤ 200 by omega) (show 0 ≤ a + 1 ∧ a + 1 ≤ 101 by omega)
  have e3 := mul_bd0 hx hx
  have e4 := mul_bd0 ha (show 0 ≤ a + 1 ∧ a + 1 ≤ 101 by omega)
  unfold clm
  split
  · exact ⟨⟨hx.1, by simp only; omega⟩, ha.1, by simp only; omega⟩
  · split
    · exact ⟨⟨e1.1, by simp only; omega⟩, e2.1, by simp only; omega⟩
    · split
      · exact ⟨⟨e3.1, by simp only; omega⟩, e4.1, by simp only; omega⟩
      · split <;> exact ⟨⟨by simp only; omega, by simp only; omega⟩, by simp only; omega, by simp only; omega⟩
noncomputable def mClmC : List AV → Option AV := mk (fun p => ClI p.1 p.2.1 p.2.2) (fun (p : Int × Int × Int) => [int p.2.1, int p.2.2, .fp (int p.1) 0]) (fun p => .tup [int (clm p.1 p.2.1 p.2.2).1, int (clm p.1 p.2.1 p.2.2).2])
theorem mClmC_at (me x a : Int) (h : ClI me x a) : mClmC [.v (.int .i64 x), .v (.int .i64 a), .fp (.v (.int .i64 me)) 0] = some (.tup [.v (.int .i64 (clm me x a).1), .v (.int .i64 (clm me x a).2)]) :=
  mk_eq (enc := fun (p : Int × Int × Int) => [int p.2.1, int p.2.2, .fp (int p.1) 0]) (f := fun p => .tup [int (clm p.1 p.2.1 p.2.2).1, int (clm p.1 p.2.1 p.2.2).2]) (x := (me, x, a)) (by
    rintro ⟨a, b, c⟩ ⟨a', b', c'⟩ h
    simp [int] at h
    simp [h]) h
set_option maxHeartbeats 2000000 in
theorem claim1_ok : FnOk Tryz.prog 254 mClmC := by
  refine mk_ok fun ⟨me, x, a⟩ h => ?_
  have hb := clm_bd h
  obtain ⟨hm, hx, ha⟩ := h
  simp only at hm hx ha
  have hG : FnsOk Tryz.prog [] := .nil
  refine callOk_awp (ctx_ok eqOk hG) mixed (live := [true, true, true, false, false, true, true, true, true, false, false, false, true, false, false, false, false, false, false, false, false, false, false, false, true, false, false, false, false, false, false, false, false, true]) (dt := []) Tryz.func254 rfl (by kernel_rfl) (by kernel_rfl) fun w0 hlens => ?_
  clear hlens
  have e1 := mul_bd0 hx (show 0 ≤ 2 * a + 1 ∧ 2 * a + 1 ≤ 201 by omega)
  have e2 := mul_bd0 (show 0 ≤ 2 * a ∧ 2 * a ≤ 200 by omega) (show 0 ≤ a + 1 ∧ a + 1 ≤ 101 by omega)
  have e3 := mul_bd0 hx hx
  have e4 := mul_bd0 ha (show 0 ≤ a + 1 ∧ a + 1 ≤ 101 by omega)
  have w1 : IntKind.i64.wrap (x * (2 * a + 1)) = x * (2 * a + 1) := wrapI (by omega) (by omega)
  have w2 : IntKind.i64.wrap (2 * a * (a + 1)) = 2 * a * (a + 1) := wrapI (by omega) (by omega)
  have w3 : IntKind.i64.wrap (x * x) = x * x := wrapI (by omega) (by omega)
  have w4 : IntKind.i64.wrap (a * (a + 1)) = a * (a + 1) := wrapI (by omega) (by omega)
  have w5 : IntKind.i64.wrap (2 * a) = 2 * a := wrapI (by omega) (by omega)
  have w6 : IntKind.i64.wrap (2 * a + 1) = 2 * a + 1 := wrapI (by omega) (by omega)
  have w7 : IntKind.i64.wrap (a + 1) = a + 1 := wrapI (by omega) (by omega)
  have w8 : IntKind.i64.wrap (2 * x) = 2 * x := wrapI (by omega) (by omega)
  by_cases m1 : me = 1
  · subst m1; simp [Tryz.f254, List.range, List.range.loop, ints, intss, int, bool, row, frac, fracs, ← List.map_take, ← List.map_drop, clm]
  by_cases m2 : me = 2
  · subst m2; simp [Tryz.f254, List.range, List.range.loop, ints, intss, int, bool, row, frac, fracs, ← List.map_take, ← List.map_drop, clm, w1, w2, w5, w6, w7]
  by_cases m3 : me = 3
  · subst m3; simp [Tryz.f254, List.range, List.range.loop, ints, intss, int, bool, row, frac, fracs, ← List.map_take, ← List.map_drop, clm, w3, w4, w7]
  by_cases m4 : me = 4
  · subst m4; simp [Tryz.f254, List.range, List.range.loop, ints, intss, int, bool, row, frac, fracs, ← List.map_take, ← List.map_drop, clm, w5, w6, w8]
  simp [Tryz.f254, List.range, List.range.loop, ints, intss, int, bool, row, frac, fracs, ← List.map_take, ← List.map_drop, clm, m1, m2, m3, m4, w7]
noncomputable def mCmpT : List AV → Option AV := mk (fun p => ClI p.1 p.2.1 p.2.2.1 ∧ ClI p.1 p.2.2.2.1 p.2.2.2.2) (fun (p : (Int) × (Int) × (Int) × (Int) × (Int)) => [int p.1, int p.2.1, int p.2.2.1, int p.2.2.2.1, int p.2.2.2.2]) (fun p => int (cmpT p.1 p.2.1 p.2.2.1 p.2.2.2.1 p.2.2.2.2))
theorem mCmpT_at (me : Int) (x : Int) (a : Int) (y : Int) (b : Int) (hpre : ClI me x a ∧ ClI me y b) : mCmpT [.v (.int .i64 me), .v (.int .i64 x), .v (.int .i64 a), .v (.int .i64 y), .v (.int .i64 b)] = some (.v (.int .i64 (cmpT me x a y b))) :=
  mk_eq (enc := fun (p : (Int) × (Int) × (Int) × (Int) × (Int)) => [int p.1, int p.2.1, int p.2.2.1, int p.2.2.2.1, int p.2.2.2.2]) (x := (me, x, a, y, b)) (by rintro ⟨a0, a1, a2, a3, a4⟩ ⟨b0, b1, b2, b3, b4⟩ h; simp [ints, intss, int, bool, row, frac, fracs, map_int_inj, map_row_inj, frac_inj, map_frac_inj] at h; simp [h]) hpre
set_option maxHeartbeats 2000000 in
theorem implCmpT_ok : FnOk Tryz.prog 217 mCmpT := by
  refine mk_ok fun ⟨me, x, a, y, b⟩ ⟨h1, h2⟩ => ?_
  simp only at h1 h2
  have hG : FnsOk Tryz.prog [(235, mCmpI), (254, mClmC)] := (.cons cmpCompare_ok (.cons claim1_ok .nil))
  refine callOk_awp (ctx_ok eqOk hG) mixed (live := [true, true, true, true, true, true, false, false, false, false, true, true, true, true, true, true, false, false, false, false, false, false, false, false, false, false, false, false, false, false, false, true, false, false, false, false, false, false, false, false, false, true, false, false, false, false, false, false, false, false, false, true, false, false, true]) (dt := []) Tryz.func217 rfl (by kernel_rfl) (by kernel_rfl) fun w0 hlens => ?_
  clear hlens
  have m1 := mClmC_at me x a h1
  have m2 := mClmC_at me y b h2
  obtain ⟨⟨b1, b2⟩, b3, b4⟩ := clm_bd h1
  obtain ⟨⟨d1, d2⟩, d3, d4⟩ := clm_bd h2
  have tyF : tyOf Tryz.prog 225 = some (⟨.func #[3, 3] #[3, 3] false, 1, 8, .nilFunc⟩ : TI) := by kernel_rfl
  unfold cmpT
  generalize clm me x a = u at *
  generalize clm me y b = v at *
  obtain ⟨t, p⟩ := u
  obtain ⟨o, r⟩ := v
  simp only at *
  have e1 := mul_bd0 (show 0 ≤ t ∧ t ≤ 1000000000000 from ⟨b1, b2⟩) (show 0 ≤ r ∧ r ≤ 20200 from ⟨d3, d4⟩)
  have e2 := mul_bd0 (show 0 ≤ o ∧ o ≤ 1000000000000 from ⟨d1, d2⟩) (show 0 ≤ p ∧ p ≤ 20200 from ⟨b3, b4⟩)
  have w1 : IntKind.i64.wrap (t * r) = t * r := wrapI (by omega) (by omega)
  have w2 : IntKind.i64.wrap (o * p) = o * p := wrapI (by omega) (by omega)
  by_cases hx : x = 0
  · subst hx
    simp [Tryz.f217, List.range, List.range.loop, ints, intss, int, bool, row, frac, fracs, ← List.map_take, ← List.map_drop, m1, m2, mCmpI_at, tyF]
  by_cases hy : y = 0
  · subst hy
    simp [Tryz.f217, List.range, List.range.loop, ints, intss, int, bool, row, frac, fracs, ← List.map_take, ← List.map_drop, m1, m2, hx, mCmpI_at, tyF]
  by_cases hp : p = 0
  · by_cases hr : r = 0
    · simp [Tryz.f217, List.range, List.range.loop, ints, intss, int, bool, row, frac, fracs, ← List.map_take, ← List.map_drop, m1, m2, hx, hy, hp, hr, mCmpI_at, tyF]
    · have hr' : (r == 0) = false := by simpa using hr
      simp [Tryz.f217, List.range, List.range.loop, ints, intss, int, bool, row, frac, fracs, ← List.map_take, ← List.map_drop, m1, m2, hx, hy, hp, hr, hr', mCmpI_at, tyF]
  · have hp' : (p == 0) = false := by simpa using hp
    by_cases hr : r = 0
    · simp [Tryz.f217, List.range, List.range.loop, ints, intss, int, bool, row, frac, fracs, ← List.map_take, ← List.map_drop, m1, m2, hx, hy, hp, hp', hr, mCmpI_at, tyF]
    · have hr' : (r == 0) = false := by simpa using hr
      simp [Tryz.f217, List.range, List.range.loop, ints, intss, int, bool, row, frac, fracs, ← List.map_take, ← List.map_drop, m1, m2, hx, hy, hp, hp', hr, hr', mCmpI_at, tyF, w1, w2]
end Go.Proofs.YtkfmhpgnhkdebaaGreatDoor.Ax
namespace Go.Proofs.YtkfmhpgnhkdebaaGreatDoor.Ax
open Go Go.RowKit
set_option linter.unusedSimpArgs false
end Go.Proofs.YtkfmhpgnhkdebaaGreatDoor.Ax
namespace Go.Proofs.YtkfmhpgnhkdebaaGreatDoor.Ax
open Go Go.RowKit
set_option linter.unusedSimpArgs false
theorem bcTo_bd {me : Int} {xs ss : List Int} {i : Nat} (hi : i < xs.length) : ∃ b : Nat, bcTo me xs ss i = b ∧ b < xs.length := by
  obtain ⟨b, h1, h2⟩ := bcTo_nat (me := me) (xs := xs) (ss := ss) i
  exact ⟨b, h1, by omega⟩
noncomputable def mOrdP : List AV → Option AV := mk (fun _ => True) (fun (p : (Int) × (Bool) × (List Int) × (Int)) => [int p.1, ints p.2.1 p.2.2.1, int p.2.2.2]) (fun p => if (qtB p.2.2.1 p.2.2.2 && inR 1 5 p.1) = true then ints (decide (p.2.2.2.toNat = 0)) (ordS p.1 p.2.2.1 p.2.2.2.toNat) else ints true [])
theorem mOrdP_at (me : Int) (nl : Bool) (xs : List Int) (n : Int) : mOrdP [.v (.int .i64 me), .sl nl 1 (xs.map int), .v (.int .i64 n)] = some (if (qtB xs n && inR 1 5 me) = true then ints (decide (n.toNat = 0)) (ordS me xs n.toNat) else ints true []) :=
  mk_eq (enc := fun (p : (Int) × (Bool) × (List Int) × (Int)) => [int p.1, ints p.2.1 p.2.2.1, int p.2.2.2]) (x := (me, nl, xs, n)) (by rintro ⟨a0, a1, a2, a3⟩ ⟨b0, b1, b2, b3⟩ h; simp [ints, intss, int, bool, row, frac, fracs, map_int_inj, map_row_inj, frac_inj, map_frac_inj] at h; simp [h]) trivial
theorem seat_cl {me : Int} {xs : List Int} {n : Int} (hv : (qtB xs n && inR 1 5 me) = true) {j : Nat} (hj : j < n.toNat) {i : Nat} (hi : i < xs.length) : ClI me (at0 xs i) (at0 (seatT me xs j) i) := by
  simp only [Bool.and_eq_true, inR_iff] at hv
  obtain ⟨hq, hm⟩ := hv
  obtain ⟨hc, hn⟩ := qt_facts hq
  obtain ⟨c1, c2, c3, c4, c5⟩ := cnt_facts hc
  obtain ⟨g1, g2, g3⟩ := seatT_facts (me := me) c1 j
  have hi2 : i < (seatT me xs j).length := by omega
  have e1 := at0_eq hi
  have e2 := at0_eq hi2
  have b1 := c3 _ (List.getElem_mem hi)
  have b2 := g3 _ (List.getElem_mem hi2)
  exact ⟨hm, by rw [e1]; exact b1, by rw [e2]; omega⟩
end Go.Proofs.YtkfmhpgnhkdebaaGreatDoor.Ax
namespace Go.Proofs.YtkfmhpgnhkdebaaGreatDoor.Ax
open Go Go.RowKit
set_option linter.unusedSimpArgs false
set_option maxHeartbeats 4000000 in
theorem implOrder_ok : FnOk Tryz.prog 155 mOrdP := by
  refine mk_ok fun ⟨me, nl, xs, n⟩ _ => ?_
  simp only
  have hG : FnsOk Tryz.prog [(99, mWithin), (151, mQt), (217, mCmpT)] := (.cons within_ok (.cons implQt_ok (.cons implCmpT_ok .nil)))
  refine callOk_awp (ctx_ok eqOk hG) mixed (live := [true, true, true, false, false, false, true, true, true, true, true, false, false, false, false, false, false, false, false, true, false, false, false, true, true, true, false, true, true, true, false, false, false, false, false, false, false, false, false, false, false, false, false, false, false, false, false, false, false, true]) (dt := [(11, ⟨[], [], []⟩)]) Tryz.func155 rfl (by kernel_rfl) (by kernel_rfl) fun w0 hlens => ?_
  clear hlens
  have h1 := mQt_at nl xs n
  by_cases hv : (qtB xs n && inR 1 5 me) = true
  case neg =>
    rw [if_neg hv]
    cases hm : inR 1 5 me with
    | false => simp [Tryz.f155, List.range, List.range.loop, ints, intss, int, bool, row, frac, fracs, ← List.map_take, ← List.map_drop, mWithin_in, hm]
    | true =>
      have hq : qtB xs n = false := by simpa [hm] using hv
      rw [hq] at h1
      simp [Tryz.f155, List.range, List.range.loop, ints, intss, int, bool, row, frac, fracs, ← List.map_take, ← List.map_drop, mWithin_in, hm, h1]
  rw [if_pos hv]
  have hv0 := hv
  have hcl := fun (j : Nat) (hj : j < n.toNat) (i : Nat) (hi : i < xs.length) => seat_cl hv hj hi
  simp only [Bool.and_eq_true, inR_iff] at hv
  obtain ⟨hq, hm⟩ := hv
  rw [hq] at h1
  have hmi : inR 1 5 me = true := inR_iff.2 hm
  obtain ⟨hc, hn⟩ := qt_facts hq
  obtain ⟨c1, c2, c3, c4, c5⟩ := cnt_facts hc
  obtain ⟨N, rfl⟩ : ∃ N : Nat, n = N := ⟨n.toNat, by omega⟩
  simp only [Int.toNat_natCast] at *
  have hm6 : 8 * xs.length ≤ 281474976710656 := by omega
  have hm7 : xs.length * 8 ≤ 281474976710656 ∧ xs.length ≤ 4611686018427387904 := by omega
  have z0 : ordS me xs 0 = [] := rfl
  have z1 : seatT me xs 0 = List.replicate xs.length 0 := rfl
  simp [Tryz.f155, List.range, List.range.loop, ints, intss, int, bool, row, frac, fracs, ← List.map_take, ← List.map_drop, mWithin_in, hmi, h1, hm6, hm7]
  refine awp_range (live := [true, true, true, false, false, false, true, true, true, true, true, false, false, false, false, false, false, false, false, true, false, false, false, true, true, true, false, true, true, true, false, false, false, false, false, false, false, false, false, false, false, false, false, false, false, false, false, false, false, true]) (ctx_ok eqOk hG) mixed [true, true, false, false, false, false, false, true, true, false, false, false, false, false, false, false, false, false, false, false, false, false, false, true, true] (N) (fun j => True) (fun j => ⟨[int me, ints nl xs, .junk, .junk, .junk, .junk, .junk, .ref 0 [] 0 xs.length, liA 1 (ordS me xs j), .junk, .junk, .junk, .junk, .junk, .junk, .junk, .junk, .junk, .junk, .junk, .junk, .junk, .junk, int N, int j, .junk, .junk, .junk, .junk, .junk, .junk, .junk, .junk, .junk, .junk, .junk, .junk, .junk, .junk, .junk, .junk, .junk, .junk, .junk, .junk, .junk, .junk, .junk, .junk, .junk, .junk, .junk, .junk, .junk, .junk, .junk, .junk, .junk, .junk, .junk, .junk, .junk, .junk, .junk], [⟨true, .sl false 1 ((seatT me xs j).map int)⟩] ++ liT (ordS me xs j)⟩) ?_ (by simp [sub, slotsLe, clean, keep, refsL, refs, once, place, renL, ren, List.replicate, int, bool, z0, z1, liA, liT, ints]) ?_ ?_ ?_
  · omega
  · trivial
  case refine_4 =>
    intro _
    have hol := ordS_len (me := me) (xs := xs) N
    generalize ordS me xs N = O at *
    cases O with
    | nil =>
      simp at hol
      simp [List.range, List.range.loop, ints, intss, int, bool, row, frac, fracs, ← List.map_take, ← List.map_drop, liA, liT, ← hol]
    | cons o O =>
      simp at hol
      simp [List.range, List.range.loop, ints, intss, int, bool, row, frac, fracs, ← List.map_take, ← List.map_drop, liA, liT, ← hol]
  intro j hjN _ hwj
  have hol := ordS_len (me := me) (xs := xs) j
  obtain ⟨g1, g2, g3⟩ := seatT_facts (me := me) c1 j
  have hcl := hcl j hjN
  have hst := seatT_succ (me := me) (xs := xs) (j := j)
  have hos : ordS me xs (j + 1) = ordS me xs j ++ [bcTo me xs (seatT me xs j) xs.length] := rfl
  generalize seatT me xs j = A at *
  generalize ordS me xs j = O at *
  have zb : bcTo me xs A 0 = 0 := rfl
  cases O with
  | nil =>
    have hol' : j = 0 := by simp at hol; omega
    subst hol'
    simp [List.range, List.range.loop, ints, intss, int, bool, row, frac, fracs, ← List.map_take, ← List.map_drop, liA, liT, hjN]
    refine awp_range (live := [true, true, true, false, false, false, true, true, true, true, true, false, false, false, false, false, false, false, false, true, false, false, false, true, true, true, false, true, true, true, false, false, false, false, false, false, false, false, false, false, false, false, false, false, false, false, false, false, false, true]) (ctx_ok eqOk hG) mixed [true, true, false, false, false, false, false, true, true, true, false, false, false, false, false, false, false, false, false, false, false, false, false, true, true, false, false, true, true] (xs.length) (fun i => True) (fun i => ⟨[int me, ints nl xs, .junk, .junk, .junk, .junk, .junk, .ref 0 [] 0 xs.length, .sl true 1 [], int (bcTo me xs A i), .junk, .junk, .junk, .junk, .junk, .junk, .junk, .junk, .junk, .junk, .junk, .junk, .junk, int N, int ((0 : Nat) : Int), .junk, .junk, int xs.length, int i, .junk, .junk, .junk, .junk, .junk, .junk, .junk, .junk, .junk, .junk, .junk, .junk, .junk, .junk, .junk, .junk, .junk, .junk, .junk, .junk, .junk, .junk, .junk, .junk, .junk, .junk, .junk, .junk, .junk, .junk, .junk, .junk, .junk, .junk, .junk], [⟨true,.sl false 1 (A.map int)⟩]⟩) ?_ (by simp [sub, slotsLe, clean, keep, refsL, refs, once, place, renL, ren, List.replicate, int, bool, zb, ints, g1, liA, liT]) ?_ ?_ ?_
    · omega
    · trivial
    · intro i hi _ hwi
      have hiA : i < A.length := by omega
      obtain ⟨b, hb1, hb2⟩ := bcTo_bd (me := me) (xs := xs) (ss := A) hi
      have hbA : b < A.length := by omega
      have a1 : xs[i] = at0 xs i := (at0_eq hi).symm
      have a2 : A[i] = at0 A i := (at0_eq hiA).symm
      have a3 : xs[b] = at0 xs b := (at0_eq hb2).symm
      have a4 : A[b] = at0 A b := (at0_eq hbA).symm
      have hm := mCmpT_at me (at0 xs i) (at0 A i) (at0 xs b) (at0 A b) ⟨hcl i hi, hcl b hb2⟩
      have hbs : bcTo me xs A (i + 1) = if 0 < cmpT me (at0 xs i) (at0 A i) (at0 xs (bcTo me xs A i).toNat) (at0 A (bcTo me xs A i).toNat) then (i : Int) else bcTo me xs A i := rfl
      rw [hb1] at hbs ⊢
      simp only [Int.toNat_natCast] at hbs
      by_cases hc : 0 < cmpT me (at0 xs i) (at0 A i) (at0 xs b) (at0 A b)
      · rw [if_pos hc] at hbs
        simp [List.range, List.range.loop, ints, intss, int, bool, row, frac, fracs, ← List.map_take, ← List.map_drop, hi, hiA, hb2, hbA, g1, a1, a2, a3, a4, hm, hc, hbs, hwi]
      · rw [if_neg hc] at hbs
        simp [List.range, List.range.loop, ints, intss, int, bool, row, frac, fracs, ← List.map_take, ← List.map_drop, hi, hiA, hb2, hbA, g1, a1, a2, a3, a4, hm, hc, hbs, hwi]
    · intro _
      obtain ⟨b, hb1, hb2⟩ := bcTo_nat (me := me) (xs := xs) (ss := A) xs.length
      have hbx : b < xs.length := by omega
      rw [hb1] at hst hos ⊢
      rw [inc1_nat] at hst
      have hbA : b < A.length := by omega
      have e3 : A[b] = at0 A b := (at0_eq hbA).symm
      have hbd := g3 _ (List.getElem_mem hbA)
      rw [e3] at hbd
      have hw : IntKind.i64.wrap (at0 A b + 1) = at0 A b + 1 := wrapI (by omega) (by omega)
      have hb8 : 0 + 1 ≤ 4611686018427387904 ∧ (0 + 1) * 8 ≤ 140737488355328 := by omega
      simp [List.range, List.range.loop, ints, intss, int, bool, row, frac, fracs, ← List.map_take, ← List.map_drop, hbA, hbx, e3, hw, g1, hb8, hst, hos, liA, liT, hwj]
      exact wrapI (by omega) (by omega)

  | cons o O =>
    have hol' : j = O.length + 1 := by simp at hol; omega
    subst hol'
    simp [List.range, List.range.loop, ints, intss, int, bool, row, frac, fracs, ← List.map_take, ← List.map_drop, liA, liT, hjN]
    refine awp_range (live := [true, true, true, false, false, false, true, true, true, true, true, false, false, false, false, false, false, false, false, true, false, false, false, true, true, true, false, true, true, true, false, false, false, false, false, false, false, false, false, false, false, false, false, false, false, false, false, false, false, true]) (ctx_ok eqOk hG) mixed [true, true, false, false, false, false, false, true, true, true, false, false, false, false, false, false, false, false, false, false, false, false, false, true, true, false, false, true, true] (xs.length) (fun i => True) (fun i => ⟨[int me, ints nl xs, .junk, .junk, .junk, .junk, .junk, .ref 0 [] 0 xs.length, .ref 1 [] 0 (O.length + 1), int (bcTo me xs A i), .junk, .junk, .junk, .junk, .junk, .junk, .junk, .junk, .junk, .junk, .junk, .junk, .junk, int N, int ((O.length + 1 : Nat) : Int), .junk, .junk, int xs.length, int i, .junk, .junk, .junk, .junk, .junk, .junk, .junk, .junk, .junk, .junk, .junk, .junk, .junk, .junk, .junk, .junk, .junk, .junk, .junk, .junk, .junk, .junk, .junk, .junk, .junk, .junk, .junk, .junk, .junk, .junk, .junk, .junk, .junk, .junk, .junk], [⟨true,.sl false 1 (A.map int)⟩,⟨true,.sl false 1 ((o :: O).map int)⟩]⟩) ?_ (by simp [sub, slotsLe, clean, keep, refsL, refs, once, place, renL, ren, List.replicate, int, bool, zb, ints, g1, liA, liT]) ?_ ?_ ?_
    · omega
    · trivial
    · intro i hi _ hwi
      have hiA : i < A.length := by omega
      obtain ⟨b, hb1, hb2⟩ := bcTo_bd (me := me) (xs := xs) (ss := A) hi
      have hbA : b < A.length := by omega
      have a1 : xs[i] = at0 xs i := (at0_eq hi).symm
      have a2 : A[i] = at0 A i := (at0_eq hiA).symm
      have a3 : xs[b] = at0 xs b := (at0_eq hb2).symm
      have a4 : A[b] = at0 A b := (at0_eq hbA).symm
      have hm := mCmpT_at me (at0 xs i) (at0 A i) (at0 xs b) (at0 A b) ⟨hcl i hi, hcl b hb2⟩
      have hbs : bcTo me xs A (i + 1) = if 0 < cmpT me (at0 xs i) (at0 A i) (at0 xs (bcTo me xs A i).toNat) (at0 A (bcTo me xs A i).toNat) then (i : Int) else bcTo me xs A i := rfl
      rw [hb1] at hbs ⊢
      simp only [Int.toNat_natCast] at hbs
      by_cases hc : 0 < cmpT me (at0 xs i) (at0 A i) (at0 xs b) (at0 A b)
      · rw [if_pos hc] at hbs
        simp [List.range, List.range.loop, ints, intss, int, bool, row, frac, fracs, ← List.map_take, ← List.map_drop, hi, hiA, hb2, hbA, g1, a1, a2, a3, a4, hm, hc, hbs, hwi]
      · rw [if_neg hc] at hbs
        simp [List.range, List.range.loop, ints, intss, int, bool, row, frac, fracs, ← List.map_take, ← List.map_drop, hi, hiA, hb2, hbA, g1, a1, a2, a3, a4, hm, hc, hbs, hwi]
    · intro _
      obtain ⟨b, hb1, hb2⟩ := bcTo_nat (me := me) (xs := xs) (ss := A) xs.length
      have hbx : b < xs.length := by omega
      rw [hb1] at hst hos ⊢
      rw [inc1_nat] at hst
      have hbA : b < A.length := by omega
      have e3 : A[b] = at0 A b := (at0_eq hbA).symm
      have hbd := g3 _ (List.getElem_mem hbA)
      rw [e3] at hbd
      have hw : IntKind.i64.wrap (at0 A b + 1) = at0 A b + 1 := wrapI (by omega) (by omega)
      have hb8 : O.length + 1 + 1 ≤ 4611686018427387904 ∧ (O.length + 1 + 1) * 8 ≤ 140737488355328 := by omega
      simp [List.range, List.range.loop, ints, intss, int, bool, row, frac, fracs, ← List.map_take, ← List.map_drop, hbA, hbx, e3, hw, g1, hb8, hst, hos, liA, liT, hwj]
      exact wrapI (by omega) (by omega)
end Go.Proofs.YtkfmhpgnhkdebaaGreatDoor.Ax
namespace Go.Proofs.YtkfmhpgnhkdebaaGreatDoor.Ax
open Go Go.RowKit
set_option linter.unusedSimpArgs false
noncomputable def mSby : List AV → Option AV := mk (fun _ => True) (fun (p : (Int) × (Bool) × (List Int) × (Int)) => [int p.1, ints p.2.1 p.2.2.1, int p.2.2.2]) (fun p => if (qtB p.2.2.1 p.2.2.2 && inR 1 5 p.1) = true then ints false (seatT p.1 p.2.2.1 p.2.2.2.toNat) else ints true [])
theorem mSby_at (me : Int) (nl : Bool) (xs : List Int) (n : Int) : mSby [.v (.int .i64 me), .sl nl 1 (xs.map int), .v (.int .i64 n)] = some (if (qtB xs n && inR 1 5 me) = true then ints false (seatT me xs n.toNat) else ints true []) :=
  mk_eq (enc := fun (p : (Int) × (Bool) × (List Int) × (Int)) => [int p.1, ints p.2.1 p.2.2.1, int p.2.2.2]) (x := (me, nl, xs, n)) (by rintro ⟨a0, a1, a2, a3⟩ ⟨b0, b1, b2, b3⟩ h; simp [ints, intss, int, bool, row, frac, fracs, map_int_inj, map_row_inj, frac_inj, map_frac_inj] at h; simp [h]) trivial
theorem seats_step {me : Int} {xs : List Int} {n : Int} (hv : (qtB xs n && inR 1 5 me) = true) {k : Nat} (hk' : k < n.toNat) :
    (incs (List.replicate xs.length 0) ((ordS me xs n.toNat).take k)).length = xs.length ∧ ∃ b : Nat, (ordS me xs n.toNat)[k]? = some (b : Int) ∧ b < xs.length ∧ (0 ≤ at0 (incs (List.replicate xs.length 0) ((ordS me xs n.toNat).take k)) b ∧ at0 (incs (List.replicate xs.length 0) ((ordS me xs n.toNat).take k)) b ≤ 200) ∧
      incs (List.replicate xs.length 0) ((ordS me xs n.toNat).take (k + 1)) = (incs (List.replicate xs.length 0) ((ordS me xs n.toNat).take k)).set b (at0 (incs (List.replicate xs.length 0) ((ordS me xs n.toNat).take k)) b + 1) := by
  have hk : k < (ordS me xs n.toNat).length := by rw [ordS_len]; exact hk'
  simp only [Bool.and_eq_true, inR_iff] at hv
  obtain ⟨hq, hm⟩ := hv
  obtain ⟨hc, hn⟩ := qt_facts hq
  obtain ⟨c1, c2, c3, c4, c5⟩ := cnt_facts hc
  have hz : ∀ x ∈ List.replicate xs.length (0 : Int), 0 ≤ x ∧ x ≤ 0 := fun x hx => by rw [List.mem_replicate] at hx; omega
  have hl : (incs (List.replicate xs.length 0) ((ordS me xs n.toNat).take k)).length = xs.length := by simp [incs_len]
  obtain ⟨b, e1, e2⟩ := ordS_mem c1 n.toNat _ (List.getElem_mem hk)
  obtain ⟨_, h2⟩ := incs_facts hz (l := (ordS me xs n.toNat).take k) fun i hi => by
    obtain ⟨b, rfl, hb⟩ := ordS_mem c1 n.toNat i (List.mem_of_mem_take hi)
    simpa using hb
  have hst := incs_take (o := List.replicate xs.length 0) hk
  rw [e1, inc1_nat] at hst
  rw [List.length_take, ordS_len] at h2
  have hb := h2 _ (List.getElem_mem (show b < (incs (List.replicate xs.length 0) ((ordS me xs n.toNat).take k)).length by omega))
  rw [← at0_eq] at hb
  exact ⟨hl, b, by rw [List.getElem?_eq_getElem hk, e1], e2, ⟨hb.1, by omega⟩, hst⟩
set_option maxHeartbeats 2000000 in
theorem implSby_ok : FnOk Tryz.prog 74 mSby := by
  refine mk_ok fun ⟨me, nl, xs, n⟩ _ => ?_
  simp only
  have hG : FnsOk Tryz.prog [(99, mWithin), (151, mQt), (155, mOrdP)] := (.cons within_ok (.cons implQt_ok (.cons implOrder_ok .nil)))
  refine callOk_awp (ctx_ok eqOk hG) mixed (live := [true, true, true, false, false, false, true, true, false, true, false, false, false, false, false, false, false, false, true, false, false, false, false, false, false, true, true, true, true]) (dt := []) Tryz.func74 rfl (by kernel_rfl) (by kernel_rfl) fun w0 hlens => ?_
  clear hlens
  have h1 := mQt_at nl xs n
  have h2 := mOrdP_at me nl xs n
  by_cases hv : (qtB xs n && inR 1 5 me) = true
  case neg =>
    rw [if_neg hv]
    cases hm : inR 1 5 me with
    | false => simp [Tryz.f74, List.range, List.range.loop, ints, intss, int, bool, row, frac, fracs, ← List.map_take, ← List.map_drop, mWithin_in, hm]
    | true =>
      have hq : qtB xs n = false := by simpa [hm] using hv
      rw [hq] at h1
      simp [Tryz.f74, List.range, List.range.loop, ints, intss, int, bool, row, frac, fracs, ← List.map_take, ← List.map_drop, mWithin_in, hm, h1]
  rw [if_pos hv]
  rw [if_pos hv] at h2
  have hstep := fun (k : Nat) (hk : k < n.toNat) => seats_step hv hk
  have hol := ordS_len (me := me) (xs := xs) n.toNat
  have hv0 := hv
  simp only [Bool.and_eq_true] at hv
  obtain ⟨hq, hm⟩ := hv
  rw [hq] at h1
  obtain ⟨hc, hn⟩ := qt_facts hq
  obtain ⟨c1, c2, c3, c4, c5⟩ := cnt_facts hc
  have hm6 : 8 * xs.length ≤ 281474976710656 := by omega
  have hm7 : xs.length ≤ 4611686018427387904 := by omega
  have z1 : incs (List.replicate xs.length 0) [] = List.replicate xs.length 0 := rfl
  unfold seatT
  obtain ⟨N, rfl⟩ : ∃ N : Nat, n = N := ⟨n.toNat, by omega⟩
  simp only [Int.toNat_natCast] at *
  generalize ordS me xs N = O at *
  simp only [ints] at h2
  generalize decide (N = 0) = bb at *
  simp [Tryz.f74, List.range, List.range.loop, ints, intss, int, bool, row, frac, fracs, ← List.map_take, ← List.map_drop, mWithin_in, hm, h1, h2, hm6, hm7, hol]
  refine awp_range (live := [true, true, true, false, false, false, true, true, false, true, false, false, false, false, false, false, false, false, true, false, false, false, false, false, false, true, true, true, true]) (ctx_ok eqOk hG) mixed [false, false, false, false, false, false, false, true, false, false, false, false, false, false, false, false, false, false, false, false, false, false, false, false, false, true, true, true] (N) (fun k => True) (fun k => ⟨[.junk, .junk, .junk, .junk, .junk, .junk, .junk, .ref 0 [] 0 xs.length, .junk, .junk, .junk, .junk, .junk, .junk, .junk, .junk, .junk, .junk, .junk, .junk, .junk, .junk, .junk, .junk, .junk, .ref 1 [] 0 N, int (N : Int), int k, .junk, .junk, .junk, .junk, .junk, .junk, .junk, .junk, .junk, .junk, .junk], [⟨true, .sl false 1 ((incs (List.replicate xs.length 0) (O.take k)).map int)⟩, ⟨true, .sl bb 1 (O.map int)⟩]⟩) ?_ (by simp [sub, slotsLe, clean, keep, refsL, refs, once, place, renL, ren, List.replicate, int, bool, z1, hol]) ?_ ?_ ?_
  · omega
  · trivial
  · intro k hk _ hwk
    obtain ⟨g1, b, e0, e2, hb, hst⟩ := hstep k hk
    obtain ⟨hkO, e1⟩ := List.getElem?_eq_some_iff.1 e0
    generalize incs (List.replicate xs.length 0) (O.take (k + 1)) = B at *
    generalize incs (List.replicate xs.length 0) (O.take k) = A at *
    subst hst
    have hbA : b < A.length := by omega
    have e3 : A[b] = at0 A b := (at0_eq hbA).symm
    have hw : IntKind.i64.wrap (at0 A b + 1) = at0 A b + 1 := wrapI (by omega) (by omega)
    simp [List.range, List.range.loop, ints, intss, int, bool, row, frac, fracs, ← List.map_take, ← List.map_drop, hk, hwk, e0, e1, e2, e3, hw, hbA, g1, hol]
  · intro _
    have hl := incs_len (o := List.replicate xs.length (0 : Int)) (l := O)
    have hkl2 : O.take N = O := List.take_of_length_le (by omega)
    simp only [hkl2]
    generalize incs (List.replicate xs.length 0) O = A at *
    simp at hl
    have hAt : A.take xs.length = A := List.take_of_length_le (by omega)
    simp [List.range, List.range.loop, ints, intss, int, bool, row, frac, fracs, ← List.map_take, ← List.map_drop, hl, hAt]
end Go.Proofs.YtkfmhpgnhkdebaaGreatDoor.Ax
namespace Go.Proofs.YtkfmhpgnhkdebaaGreatDoor.Ax
open Go Go.RowKit
set_option linter.unusedSimpArgs false
noncomputable def mGs : List AV → Option AV := mk (fun _ => True) (fun (p : (Int) × (Bool) × (List Int) × (Int)) => [int p.1, ints p.2.1 p.2.2.1, int p.2.2.2]) (fun p => if givV p.1 p.2.2.1 p.2.2.2 = true then ints false (givT p.1 p.2.2.1 p.2.2.2) else ints true [])
theorem mGs_at (me : Int) (nl : Bool) (xs : List Int) (n : Int) : mGs [.v (.int .i64 me), .sl nl 1 (xs.map int), .v (.int .i64 n)] = some (if givV me xs n = true then ints false (givT me xs n) else ints true []) :=
  mk_eq (enc := fun (p : (Int) × (Bool) × (List Int) × (Int)) => [int p.1, ints p.2.1 p.2.2.1, int p.2.2.2]) (x := (me, nl, xs, n)) (by rintro ⟨a0, a1, a2, a3⟩ ⟨b0, b1, b2, b3⟩ h; simp [ints, intss, int, bool, row, frac, fracs, map_int_inj, map_row_inj, frac_inj, map_frac_inj] at h; simp [h]) trivial
theorem giv_zero {xs : List Int} {n : Int} : givV 0 xs n = qtB xs n := by simp [givV]
theorem giv_some {me : Int} {xs : List Int} {n : Int} (h : ¬ me = 0) : givV me xs n = (qtB xs n && inR 1 5 me) := by simp [givV, h]
theorem givT_facts {me : Int} {xs : List Int} {n : Int} (h : givV me xs n = true) : (givT me xs n).length = xs.length ∧ 1 ≤ xs.length ∧ xs.length ≤ 6 ∧ ∀ x ∈ givT me xs n, 0 ≤ x ∧ x ≤ 200 := by
  have hq : qtB xs n = true := by simp only [givV, Bool.and_eq_true] at h; exact h.1
  obtain ⟨hc, hn⟩ := qt_facts hq
  obtain ⟨c1, c2, _⟩ := cnt_facts hc
  unfold givT
  rw [if_pos h]
  split
  · obtain ⟨h1, _, h3⟩ := hamT_facts hq
    exact ⟨h1, c1, c2, fun x hx => by have := h3 x hx; omega⟩
  · obtain ⟨h1, _, h3⟩ := seatT_facts (me := me) c1 n.toNat
    exact ⟨h1, c1, c2, fun x hx => by have := h3 x hx; omega⟩
theorem implGs_ok : FnOk Tryz.prog 16 mGs := by
  refine mk_ok fun ⟨me, nl, xs, n⟩ _ => ?_
  simp only
  have hG : FnsOk Tryz.prog [(73, mHam), (74, mSby)] := (.cons implHam_ok (.cons implSby_ok .nil))
  refine callOk_awp (ctx_ok eqOk hG) mixed (live := [true, true, true, false, false, false, true, false, true]) (dt := []) Tryz.func16 rfl (by kernel_rfl) (by kernel_rfl) fun w0 hlens => ?_
  clear hlens
  by_cases h0 : me = 0
  · subst h0
    have h1 := mHam_at nl xs n
    by_cases hv : givV 0 xs n = true
    · have hl := (givT_facts hv).1
      rw [if_pos hv]
      have e : givT 0 xs n = hamT xs n := by unfold givT; rw [if_pos hv, if_pos rfl]
      rw [giv_zero] at hv
      rw [if_pos hv] at h1
      rw [e] at hl ⊢
      generalize hamT xs n = A at *
      have hAt : A.take xs.length = A := List.take_of_length_le (by omega)
      simp only [ints] at h1
      simp [Tryz.f16, List.range, List.range.loop, ints, intss, int, bool, row, frac, fracs, ← List.map_take, ← List.map_drop, h1, hl, hAt]
    · rw [if_neg hv]
      rw [giv_zero] at hv
      rw [if_neg hv] at h1
      simp only [ints, List.map_nil] at h1
      simp [Tryz.f16, List.range, List.range.loop, ints, intss, int, bool, row, frac, fracs, ← List.map_take, ← List.map_drop, h1]
  · have h1 := mSby_at me nl xs n
    by_cases hv : givV me xs n = true
    · have hl := (givT_facts hv).1
      rw [if_pos hv]
      have e : givT me xs n = seatT me xs n.toNat := by unfold givT; rw [if_pos hv, if_neg h0]
      rw [giv_some h0] at hv
      rw [if_pos hv] at h1
      rw [e] at hl ⊢
      generalize seatT me xs n.toNat = A at *
      have hAt : A.take xs.length = A := List.take_of_length_le (by omega)
      simp only [ints] at h1
      simp [Tryz.f16, List.range, List.range.loop, ints, intss, int, bool, row, frac, fracs, ← List.map_take, ← List.map_drop, h0, h1, hl, hAt]
    · rw [if_neg hv]
      rw [giv_some h0] at hv
      rw [if_neg hv] at h1
      simp only [ints, List.map_nil] at h1
      simp [Tryz.f16, List.range, List.range.loop, ints, intss, int, bool, row, frac, fracs, ← List.map_take, ← List.map_drop, h0, h1]
def quoS : ByteArray := ⟨#[32, 113, 117, 111, 116, 97]⟩
def nonS : ByteArray := ⟨#[110, 111, 110, 101]⟩
def slS (me : Int) (xs : List Int) (n : Int) : ByteArray := if givV me xs n = true then (if kqB xs (givT me xs n) = true then numS (givT me xs n) ++ quoS else numS (givT me xs n)) else nonS
noncomputable def mSl : List AV → Option AV := mk (fun _ => True) (fun (p : (Int) × (Bool) × (List Int) × (Int)) => [int p.1, ints p.2.1 p.2.2.1, int p.2.2.2]) (fun p => .v (.string (slS p.1 p.2.2.1 p.2.2.2)))
theorem mSl_at (me : Int) (nl : Bool) (xs : List Int) (n : Int) : mSl [.v (.int .i64 me), .sl nl 1 (xs.map int), .v (.int .i64 n)] = some (.v (.string (slS me xs n))) :=
  mk_eq (enc := fun (p : (Int) × (Bool) × (List Int) × (Int)) => [int p.1, ints p.2.1 p.2.2.1, int p.2.2.2]) (x := (me, nl, xs, n)) (by rintro ⟨a0, a1, a2, a3⟩ ⟨b0, b1, b2, b3⟩ h; simp [ints, intss, int, bool, row, frac, fracs, map_int_inj, map_row_inj, frac_inj, map_frac_inj] at h; simp [h]) trivial
theorem numS_sz {xs : List Int} (h : numOk xs) (hl : xs.length ≤ 10) : (numS xs).size ≤ 1000000 := by
  have := numS_size h.2
  omega
set_option maxHeartbeats 1000000 in
theorem implSl_ok : FnOk Tryz.prog 23 mSl := by
  refine mk_ok fun ⟨me, nl, xs, n⟩ _ => ?_
  have hG : FnsOk Tryz.prog [(16, mGs), (88, mKq), (15, mFNum)] := (.cons implGs_ok (.cons implKq_ok (.cons implFormatNumbers_ok .nil)))
  refine callOk_awp (ctx_ok eqOk hG) mixed (live := [true, true, true, false, false, false, true, true, false, false, false, false, false, true, false, false, true]) (dt := []) Tryz.func23 rfl (by kernel_rfl) (by kernel_rfl) fun w0 hlens => ?_
  clear hlens
  have h1 := mGs_at me nl xs n
  by_cases hv : givV me xs n = true
  · obtain ⟨l1, l2, l3, l4⟩ := givT_facts hv
    rw [if_pos hv] at h1
    have hs : slS me xs n = if kqB xs (givT me xs n) = true then numS (givT me xs n) ++ quoS else numS (givT me xs n) := by unfold slS; rw [if_pos hv]
    generalize givT me xs n = A at *
    have hok : numOk A := ⟨by omega, fun x hx => by have := l4 x hx; unfold inI; omega⟩
    have h2 := mKq_at nl xs false A
    have h3 := mFNum_at false A hok
    have hz := numS_sz hok (by omega)
    have hAt : A.take xs.length = A := List.take_of_length_le (by omega)
    have hne : ¬ xs.length = 0 := by omega
    have hnx : ¬ A = [] := by intro h; rw [h] at l1; simp at l1; omega
    have hq1 : quoS.size = 6 := rfl
    have hqe : ({ data := #[32, 113, 117, 111, 116, 97] } : ByteArray) = quoS := rfl
    simp only [ints] at h1
    cases hk : kqB xs A with
    | false =>
      rw [hk] at h2 hs
      simp at hs
      simp [Tryz.f23, List.range, List.range.loop, ints, intss, int, bool, row, frac, fracs, ← List.map_take, ← List.map_drop, h1, h2, h3, hs, l1, hAt, hne, hnx, hz]
    | true =>
      rw [hk] at h2 hs
      simp at hs
      have hz2 : (numS A).size + 6 ≤ 9223372036854775807 := by omega
      simp [Tryz.f23, List.range, List.range.loop, ints, intss, int, bool, row, frac, fracs, ← List.map_take, ← List.map_drop, h1, h2, h3, hs, l1, hAt, hne, hnx, hz, hz2, hqe, hq1]
  · rw [if_neg hv] at h1
    have hs : slS me xs n = nonS := by unfold slS; rw [if_neg hv]
    simp only [ints, List.map_nil] at h1
    simp [Tryz.f23, List.range, List.range.loop, ints, intss, int, bool, row, frac, fracs, ← List.map_take, ← List.map_drop, h1, hs, nonS]
end Go.Proofs.YtkfmhpgnhkdebaaGreatDoor.Ax
