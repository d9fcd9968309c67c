/-
  Contracts: IsDivision of the reference, PieceEnvy (both programs). No condition.
-/
import Derived.Test.YtiieikknhheffaaGreatDoorCG2
import Derived.Test.YtiieikknhheffaaGreatDoorCB2
import Derived.Test.YtiieikknhheffaaGreatDoorCK4
namespace Go.Proofs.YtiieikknhheffaaGreatDoor.Ax
open Go Go.RowKit
set_option linter.unusedSimpArgs false

theorem posFrom_app {v : Int} {xs ys : List Int} : ∀ {k : Nat}, posFrom v (xs ++ ys) k = if 0 ≤ posFrom v xs k then posFrom v xs k else posFrom v ys (k + xs.length) := by
  induction xs with
  | nil => intro k; simp [posFrom]
  | cons x xs ih =>
    intro k
    simp only [List.cons_append, posFrom]
    by_cases e : x = v
    · simp [e]
    · simp only [if_neg e]
      rw [ih]; simp [Nat.add_assoc, Nat.add_comm 1]
theorem pos_snoc {v x : Int} {xs : List Int} : decide (0 ≤ pos (xs ++ [x]) v) = (decide (0 ≤ pos xs v) || decide (x = v)) := by
  unfold pos
  rw [posFrom_app]
  by_cases h : 0 ≤ posFrom v xs 0
  · simp [h]
  · by_cases e : x = v
    · simp [h, posFrom, e]
    · simp [h, posFrom, e]

/-- Whose pieces were met among the first k. -/
def seenL (n : Nat) (l : List Int) (k : Nat) : List Bool := (List.range n).map fun (v : Nat) => decide (0 ≤ pos (l.take k) v)
theorem seenL_zero {n : Nat} {l : List Int} : seenL n l 0 = List.replicate n false := by
  unfold seenL
  apply List.ext_getElem
  · simp
  · intro i h1 h2; simp [pos, posFrom]
theorem seenL_len {n : Nat} {l : List Int} {k : Nat} : (seenL n l k).length = n := by simp [seenL]
theorem seenL_at {n : Nat} {l : List Int} {k i : Nat} (h : i < (seenL n l k).length) : (seenL n l k)[i] = decide (0 ≤ pos (l.take k) (i : Int)) := by simp [seenL]
theorem seenL_get {n : Nat} {l : List Int} {k : Nat} {x : Int} (h0 : 0 ≤ x) (h : x.toNat < n) : (seenL n l k)[x.toNat]? = some (decide (0 ≤ pos (l.take k) x)) := by
  unfold seenL
  have e : ((x.toNat : Nat) : Int) = x := by omega
  simp [h, e]
theorem seenL_set {n : Nat} {l : List Int} {k : Nat} (hk : k < l.length) (h0 : 0 ≤ l[k]) (_h : l[k].toNat < n) : ((seenL n l k).map bool).set l[k].toNat (bool true) = (seenL n l (k + 1)).map bool := by
  rw [← List.map_set]
  congr 1
  apply List.ext_getElem
  · simp [seenL]
  · intro i h1 h2
    rw [List.getElem_set]
    simp only [seenL, List.getElem_map, List.getElem_range, List.take_succ_eq_append_getElem hk, pos_snoc]
    by_cases e : l[k].toNat = i
    · simp [← e]; omega
    · have : l[k] ≠ (i : Int) := by omega
      simp [e, this]

theorem div_rect {xss : List (Bool × List Int)} {l : List Int} (h : divB xss l = true) : rectB xss 3 10 100 = true ∧ l.length = wid xss := by
  simp only [divB, Bool.and_eq_true, decide_eq_true_eq] at h
  exact ⟨h.1.1.1, h.1.1.2⟩

theorem wo_pre {xss : List (Bool × List Int)} {l : List Int} {a b c : Int} (h : rectB xss a b c = true) (hl : l.length ≤ wid xss) {i : Nat} (hi : i < xss.length) : (0 : Int) ≤ (i : Int) ∧ ((i : Int)).toNat < xss.length ∧ l.length ≤ (xss.getD ((i : Int)).toNat (true, [])).2.length := by
  have hr := (rect_row h hi).1
  refine ⟨by omega, by simpa using hi, ?_⟩
  rw [Int.toNat_natCast, List.getD_eq_getElem?_getD, List.getElem?_eq_getElem hi]
  simp only [Option.getD_some]; omega

/-- How much person i envies person k. -/
def envD (xss : List (Bool × List Int)) (l : List Int) (i k : Nat) : Int := IntKind.i64.wrap (wo xss l i k - wo xss l i i)
/-- The most that person i envies one of the first k, and m. -/
def peRow (xss : List (Bool × List Int)) (l : List Int) (i : Nat) (m : Int) : Nat → Int
  | 0 => m
  | k + 1 => max (peRow xss l i m k) (envD xss l i k)
def peTo (xss : List (Bool × List Int)) (l : List Int) : Nat → Int
  | 0 => 0
  | i + 1 => peRow xss l i (peTo xss l i) xss.length
theorem peRow_nn {xss : List (Bool × List Int)} {l : List Int} {i : Nat} {m : Int} (h : 0 ≤ m) : ∀ k, 0 ≤ peRow xss l i m k
  | 0 => h
  | k + 1 => by have := peRow_nn (xss := xss) (l := l) (i := i) h k; rw [peRow]; omega
theorem peTo_nn {xss : List (Bool × List Int)} {l : List Int} : ∀ i, 0 ≤ peTo xss l i
  | 0 => by simp [peTo]
  | i + 1 => peRow_nn (peTo_nn i) _

noncomputable def mPiece : List AV → Option AV := mk (fun _ => True) (fun (p : (Bool) × (List (Bool × List Int)) × (Bool) × (List Int)) => [intss p.1 p.2.1, ints p.2.2.1 p.2.2.2]) (fun p => int (if divB p.2.1 p.2.2.2 = true then peTo p.2.1 p.2.2.2 p.2.1.length else -1))
theorem mPiece_at (nl : Bool) (xss : List (Bool × List Int)) (nl' : Bool) (l : List Int) : mPiece [.sl nl 1 (xss.map row), .sl nl' 1 (l.map int)] = some (.v (.int .i64 (if divB xss l = true then peTo xss l xss.length else -1))) :=
  mk_eq (enc := fun (p : (Bool) × (List (Bool × List Int)) × (Bool) × (List Int)) => [intss p.1 p.2.1, ints p.2.2.1 p.2.2.2]) (x := (nl, xss, nl', l)) (by rintro ⟨a0, a1, a2, a3⟩ ⟨b0, b1, b2, b3⟩ h; simp [ints, intss, int, bool, row, frac, fracs, map_int_inj, map_row_inj, frac_inj, map_frac_inj] at h; simp [h]) trivial

end Go.Proofs.YtiieikknhheffaaGreatDoor.Ax

/-
  Contracts: RankingOk (both programs). No condition.
-/
namespace Go.Proofs.YtiieikknhheffaaGreatDoor.Ax
open Go Go.RowKit
set_option linter.unusedSimpArgs false

/-- Number k of the list is a candidate of m who was not met before. -/
def rankAt (m : Int) (l : List Int) (k : Nat) : Bool := inR 0 (m - 1) (l.getD k 0) && !decide (0 ≤ pos (l.take k) (l.getD k 0))
def rankB (m : Int) (l : List Int) : Bool := inR 1 5 m && decide (l.length = m) && allR l.length (rankAt m l)

noncomputable def mRank : List AV → Option AV := mk (fun _ => True) (fun (p : (Int) × (Bool) × (List Int)) => [int p.1, ints p.2.1 p.2.2]) (fun p => bool (rankB p.1 p.2.2))
theorem mRank_at (m : Int) (nl : Bool) (l : List Int) : mRank [.v (.int .i64 m), .sl nl 1 (l.map int)] = some (.v (.bool (rankB m l))) :=
  mk_eq (enc := fun (p : (Int) × (Bool) × (List Int)) => [int p.1, ints p.2.1 p.2.2]) (x := (m, nl, l)) (by rintro ⟨a0, a1, a2⟩ ⟨b0, b1, b2⟩ h; simp [ints, intss, int, bool, row, frac, fracs, map_int_inj, map_row_inj, frac_inj, map_frac_inj] at h; simp [h]) trivial

theorem rankAt_at {m : Int} {l : List Int} {k : Nat} (h : k < l.length) : rankAt m l k = (inR 0 (m - 1) l[k] && !decide (0 ≤ pos (l.take k) l[k])) := by unfold rankAt; rw [getD_at h]

set_option maxHeartbeats 2000000 in
theorem implRankingOk_ok : FnOk Tryz.prog 89 mRank := by
  refine mk_ok fun ⟨m, nl, l⟩ _ => ?_
  have hG : FnsOk Tryz.prog [(78, mWithin), (143, mHas)] := (.cons within_ok (.cons slicesContains_ok .nil))
  refine callOk_awp (ctx_ok eqOk hG) mixed (live := [true, true, false, false, true, true, true, false, false, false, false, false, false, false, false, true, true, true, true, true, false, false, false, false, false, false, false, false, false, false, false, false, false, false, true]) (dt := []) Tryz.func89 rfl (by kernel_rfl) (by kernel_rfl) fun w0 hlens => ?_
  clear hlens
  cases h1 : inR 1 5 m with
  | false => simp (config := {contextual := true}) [Tryz.f89, List.range, List.range.loop, ints, intss, int, bool, row, frac, fracs, ← List.map_take, ← List.map_drop, mWithin_in, h1, rankB]
  | true =>
  have hm := h1
  simp only [inR, Bool.and_eq_true, decide_eq_true_eq] at hm
  by_cases h2 : (l.length : Int) = m
  rotate_left
  · have h2' : ((l.length : Int) != m) = true := by simpa using h2
    simp (config := {contextual := true}) [Tryz.f89, List.range, List.range.loop, ints, intss, int, bool, row, frac, fracs, ← List.map_take, ← List.map_drop, mWithin_in, h1, h2, h2', rankB]
  subst h2
  have hw0 : IntKind.i64.wrap ((l.length : Int) - 1) = (l.length : Int) - 1 := wrapI (by omega) (by omega)
  have hr : rankB l.length l = allR l.length (rankAt l.length l) := by simp [rankB, h1]
  generalize hres : rankB l.length l = r at hr
  simp (config := {contextual := true}) [Tryz.f89, List.range, List.range.loop, ints, intss, int, bool, row, frac, fracs, ← List.map_take, ← List.map_drop, mWithin_in, h1]
  refine awp_range (live := [true, true, false, false, true, true, true, false, false, false, false, false, false, false, false, true, true, true, true, true, false, false, false, false, false, false, false, false, false, false, false, false, false, false, true]) (ctx_ok eqOk hG) mixed [true, true, false, false, false, false, false, false, false, false, false, false, false, false, false, false, true, true, true] (l.length) (fun k => upto (rankAt l.length l) k) (fun k => ⟨[int l.length, ints nl l, .junk, .junk, .junk, .junk, .junk, .junk, .junk, .junk, .junk, .junk, .junk, .junk, .junk, .junk, ints nl l, int l.length, int k, .junk, .junk, .junk, .junk, .junk, .junk, .junk, .junk, .junk, .junk, .junk, .junk, .junk, .junk, .junk, .junk, .junk], []⟩) ?_ (by simp [sub, slotsLe, clean, keep, refsL, refs, once, place, renL, ren, List.replicate, int, bool, ints]) ?_ ?_ ?_
  · omega
  · exact upto_zero
  · intro k h hp hwk
    have hf : rankAt l.length l k = false → r = false := fun hf => by rw [hr]; exact allR_no h hf
    have ht := upto_succ hp
    clear hp
    have e := rankAt_at (m := l.length) h
    generalize rankAt l.length l = f at *
    generalize hi : inR 0 ((l.length : Int) - 1) l[k] = ii at e
    rw [e] at hf ht
    simp at hf ht
    simp (config := {contextual := true}) [List.range, List.range.loop, ints, intss, int, bool, row, frac, fracs, ← List.map_take, ← List.map_drop, h, hwk, hw0, mWithin_in, mHas_at, hi, Nat.le_of_lt h]
    grind
  · intro hp
    rw [allR_yes hp] at hr
    subst hr
    simp (config := {contextual := true}) [List.range, List.range.loop, ints, intss, int, bool, row, frac, fracs, ← List.map_take, ← List.map_drop]

set_option maxHeartbeats 2000000 in
theorem specRankingOk_ok : FnOk Tryz.prog 94 mRank := by
  refine mk_ok fun ⟨m, nl, l⟩ _ => ?_
  have hG : FnsOk Tryz.prog [(75, mWithin)] := (.cons l01In_ok .nil)
  refine callOk_awp (ctx_ok eqOk hG) mixed (live := [true, true, false, false, true, true, false, true, false, false, false, false, false, false, false, false, true, false, false, true, true, true, true, false, false, false, false, false, false, false, false, false, false, false, false, true]) (dt := []) Tryz.func94 rfl (by kernel_rfl) (by kernel_rfl) fun w0 hlens => ?_
  clear hlens
  cases h1 : inR 1 5 m with
  | false => simp (config := {contextual := true}) [Tryz.f94, List.range, List.range.loop, ints, intss, int, bool, row, frac, fracs, ← List.map_take, ← List.map_drop, mWithin_in, h1, rankB]
  | true =>
  have hm := h1
  simp only [inR, Bool.and_eq_true, decide_eq_true_eq] at hm
  by_cases h2 : (l.length : Int) = m
  rotate_left
  · have h2' : ((l.length : Int) != m) = true := by simpa using h2
    simp (config := {contextual := true}) [Tryz.f94, List.range, List.range.loop, ints, intss, int, bool, row, frac, fracs, ← List.map_take, ← List.map_drop, mWithin_in, h1, h2, h2', rankB]
  subst h2
  have hw0 : IntKind.i64.wrap ((l.length : Int) - 1) = (l.length : Int) - 1 := wrapI (by omega) (by omega)
  have hr : rankB l.length l = allR l.length (rankAt l.length l) := by simp [rankB, h1]
  generalize hres : rankB l.length l = r at hr
  have hb1 : l.length ≤ 281474976710656 := by omega
  have hb2 : l.length ≤ 4611686018427387904 := by omega
  simp (config := {contextual := true}) [Tryz.f94, List.range, List.range.loop, ints, intss, int, bool, row, frac, fracs, ← List.map_take, ← List.map_drop, mWithin_in, h1, hb1, hb2]
  refine awp_range (live := [true, true, false, false, true, true, false, true, false, false, false, false, false, false, false, false, true, false, false, true, true, true, true, false, false, false, false, false, false, false, false, false, false, false, false, true]) (ctx_ok eqOk hG) mixed [true, false, false, false, false, true, false, false, false, false, false, false, false, false, false, false, false, false, false, true, true, true] (l.length) (fun k => upto (rankAt l.length l) k) (fun k => ⟨[int l.length, .junk, .junk, .junk, .junk, .ref 0 [] 0 l.length, .junk, .junk, .junk, .junk, .junk, .junk, .junk, .junk, .junk, .junk, .junk, .junk, .junk, ints nl l, int l.length, int k, .junk, .junk, .junk, .junk, .junk, .junk, .junk, .junk, .junk, .junk, .junk, .junk, .junk, .junk, .junk, .junk, .junk, .junk], [⟨true, .sl false 1 ((seenL l.length l k).map bool)⟩]⟩) ?_ (by simp [sub, slotsLe, clean, keep, refsL, refs, once, place, renL, ren, List.replicate, int, bool, ints, seenL_zero]) ?_ ?_ ?_
  · omega
  · exact upto_zero
  · intro k h hp hwk
    have hf : rankAt l.length l k = false → r = false := fun hf => by rw [hr]; exact allR_no h hf
    have ht := upto_succ hp
    clear hp
    have e := rankAt_at (m := l.length) h
    have i0 : inR 0 ((l.length : Int) - 1) l[k] = true → 0 ≤ l[k] := fun hi => by simp [inR] at hi; omega
    have i1 : inR 0 ((l.length : Int) - 1) l[k] = true → l[k].toNat < l.length := fun hi => by simp [inR] at hi; omega
    have i4 : inR 0 ((l.length : Int) - 1) l[k] = true → ((l[k].toNat : Nat) : Int) = l[k] := fun hi => by have := i0 hi; omega
    have i3 : inR 0 ((l.length : Int) - 1) l[k] = true → ((seenL l.length l k).map bool).set l[k].toNat (.v (.bool true)) = (seenL l.length l (k + 1)).map bool := fun hi => seenL_set h (i0 hi) (i1 hi)
    generalize rankAt l.length l = f at *
    rw [e] at hf ht
    simp at hf ht
    simp (config := {contextual := true}) [List.range, List.range.loop, ints, intss, int, bool, row, frac, fracs, ← List.map_take, ← List.map_drop, h, hwk, hw0, mWithin_in, i0, i1, i3, i4, seenL_at, seenL_len]
    grind
  · intro hp
    rw [allR_yes hp] at hr
    subst hr
    simp (config := {contextual := true}) [List.range, List.range.loop, ints, intss, int, bool, row, frac, fracs, ← List.map_take, ← List.map_drop]

end Go.Proofs.YtiieikknhheffaaGreatDoor.Ax

/-
  Contracts: comparisons of fractions (both programs); a ranking names every candidate. No condition.
-/
namespace Go.Proofs.YtiieikknhheffaaGreatDoor.Ax
open Go Go.RowKit
set_option linter.unusedSimpArgs false

def cmpI (x y : Int) : Int := if x < y then -1 else if y < x then 1 else 0
noncomputable def mCmpI : List AV → Option AV := mk (fun _ => True) (fun (p : (Int) × (Int)) => [int p.1, int p.2]) (fun p => int (cmpI p.1 p.2))
theorem mCmpI_at (x : Int) (y : Int) : mCmpI [.v (.int .i64 x), .v (.int .i64 y)] = some (.v (.int .i64 (cmpI x y))) :=
  mk_eq (enc := fun (p : (Int) × (Int)) => [int p.1, int p.2]) (x := (x, y)) (by rintro ⟨a0, a1⟩ ⟨b0, b1⟩ h; simp [ints, intss, int, bool, row, frac, fracs, map_int_inj, map_row_inj, frac_inj, map_frac_inj] at h; simp [h]) trivial
noncomputable def mNaN : List AV → Option AV := mk (fun _ => True) (fun (p : (Int)) => [int p]) (fun _ => bool false)
theorem mNaN_at (x : Int) : mNaN [.v (.int .i64 x)] = some (.v (.bool false)) :=
  mk_eq (enc := fun (p : (Int)) => [int p]) (x := (x)) (by rintro a0 b0 h; simp [ints, intss, int, bool, row, frac, fracs, map_int_inj, map_row_inj, frac_inj, map_frac_inj] at h; simp [h]) trivial
theorem isNaN_ok : FnOk Tryz.prog 199 mNaN := by
  refine mk_ok fun x _ => ?_
  have hG : FnsOk Tryz.prog [] := .nil
  refine callOk_awp (ctx_ok eqOk hG) mixed (live := [true, false, true]) (dt := []) Tryz.func199 rfl (by kernel_rfl) (by kernel_rfl) fun w0 hlens => ?_
  simp [Tryz.f199, List.range, List.range.loop, ints, intss, int, bool, row, frac, fracs, ← List.map_take, ← List.map_drop]
set_option maxHeartbeats 1000000 in
theorem cmpCompare_ok : FnOk Tryz.prog 179 mCmpI := by
  refine mk_ok fun ⟨x, y⟩ _ => ?_
  have hG : FnsOk Tryz.prog [(199, mNaN)] := (.cons isNaN_ok .nil)
  refine callOk_awp (ctx_ok eqOk hG) mixed (live := [true, true, false, false, true, true, true, false, false, false, false, true, true, true, false, false, true, false, false, true]) (dt := []) Tryz.func179 rfl (by kernel_rfl) (by kernel_rfl) fun w0 hlens => ?_
  by_cases h1 : x < y
  · simp [Tryz.f179, List.range, List.range.loop, ints, intss, int, bool, row, frac, fracs, ← List.map_take, ← List.map_drop, mNaN_at, h1, cmpI]
  · by_cases h2 : y < x <;> simp [Tryz.f179, List.range, List.range.loop, ints, intss, int, bool, row, frac, fracs, ← List.map_take, ← List.map_drop, mNaN_at, h1, h2, cmpI]

noncomputable def mCmpF : List AV → Option AV := mk (fun _ => True) (fun (p : (Int) × (Int) × (Int) × (Int)) => [frac (p.1, p.2.1), frac (p.2.2.1, p.2.2.2)]) (fun p => int (cmpF (p.1, p.2.1) (p.2.2.1, p.2.2.2)))
theorem mCmpF_at (a : Int) (b : Int) (c : Int) (d : Int) : mCmpF [.agg [.v (.int .i64 a), .v (.int .i64 b)], .agg [.v (.int .i64 c), .v (.int .i64 d)]] = some (.v (.int .i64 (cmpF (a, b) (c, d)))) :=
  mk_eq (enc := fun (p : (Int) × (Int) × (Int) × (Int)) => [frac (p.1, p.2.1), frac (p.2.2.1, p.2.2.2)]) (x := (a, b, c, d)) (by rintro ⟨a0, a1, a2, a3⟩ ⟨b0, b1, b2, b3⟩ h; simp [ints, intss, int, bool, row, frac, fracs, map_int_inj, map_row_inj, frac_inj, map_frac_inj] at h; simp [h]) trivial
set_option maxHeartbeats 2000000 in
theorem implCmpF_ok : FnOk Tryz.prog 144 mCmpF := by
  refine mk_ok fun ⟨a, b, c, d⟩ _ => ?_
  have hG : FnsOk Tryz.prog [(90, mFracOk), (179, mCmpI)] := (.cons implFractionOk_ok (.cons cmpCompare_ok .nil))
  refine callOk_awp (ctx_ok eqOk hG) mixed (live := [true, true, true, true, true, false, false, false, false, false, false, false, true]) (dt := []) Tryz.func144 rfl (by kernel_rfl) (by kernel_rfl) fun w0 hlens => ?_
  cases h1 : fracOk (a, b) with
  | false => simp (config := {contextual := true}) [Tryz.f144, List.range, List.range.loop, ints, intss, int, bool, row, frac, fracs, ← List.map_take, ← List.map_drop, mFracOk_at, mTwo_at, h1, cmpF]
  | true =>
  cases h2 : fracOk (c, d) with
  | false => simp (config := {contextual := true}) [Tryz.f144, List.range, List.range.loop, ints, intss, int, bool, row, frac, fracs, ← List.map_take, ← List.map_drop, mFracOk_at, mTwo_at, h1, h2, cmpF]
  | true =>
  have b1 := fracOk_bd h1
  have b2 := fracOk_bd h2
  simp only at b1 b2
  have m1 := mul_bd (x := a) (y := d) (m := 1000000000) (n := 1000000000) (by omega) (by omega) (by omega) (by omega)
  have m2 := mul_bd (x := c) (y := b) (m := 1000000000) (n := 1000000000) (by omega) (by omega) (by omega) (by omega)
  have w1 : IntKind.i64.wrap (a * d) = a * d := wrapI (by omega) (by omega)
  have w2 : IntKind.i64.wrap (c * b) = c * b := wrapI (by omega) (by omega)
  have e : cmpF (a, b) (c, d) = cmpI (a * d) (c * b) := by simp [cmpF, h1, h2, cmpI]
  rw [e]
  by_cases h3 : a * d < c * b
  · simp (config := {contextual := true}) [Tryz.f144, List.range, List.range.loop, ints, intss, int, bool, row, frac, fracs, ← List.map_take, ← List.map_drop, mFracOk_at, mTwo_at, mCmpI_at, h1, h2, w1, w2, cmpI, h3]
  · by_cases h4 : c * b < a * d <;> simp (config := {contextual := true}) [Tryz.f144, List.range, List.range.loop, ints, intss, int, bool, row, frac, fracs, ← List.map_take, ← List.map_drop, mFracOk_at, mTwo_at, mCmpI_at, h1, h2, w1, w2, cmpI, h3, h4]

noncomputable def mLessF : List AV → Option AV := mk (fun _ => True) (fun (p : (Int) × (Int) × (Int) × (Int)) => [frac (p.1, p.2.1), frac (p.2.2.1, p.2.2.2)]) (fun p => bool (decide (cmpF (p.1, p.2.1) (p.2.2.1, p.2.2.2) = -1)))
theorem mLessF_at (a : Int) (b : Int) (c : Int) (d : Int) : mLessF [.agg [.v (.int .i64 a), .v (.int .i64 b)], .agg [.v (.int .i64 c), .v (.int .i64 d)]] = some (.v (.bool (decide (cmpF (a, b) (c, d) = -1)))) :=
  mk_eq (enc := fun (p : (Int) × (Int) × (Int) × (Int)) => [frac (p.1, p.2.1), frac (p.2.2.1, p.2.2.2)]) (x := (a, b, c, d)) (by rintro ⟨a0, a1, a2, a3⟩ ⟨b0, b1, b2, b3⟩ h; simp [ints, intss, int, bool, row, frac, fracs, map_int_inj, map_row_inj, frac_inj, map_frac_inj] at h; simp [h]) trivial
set_option maxHeartbeats 1000000 in
theorem less_ok : FnOk Tryz.prog 92 mLessF := by
  refine mk_ok fun ⟨a, b, c, d⟩ _ => ?_
  have hG : FnsOk Tryz.prog [(144, mCmpF)] := (.cons implCmpF_ok .nil)
  refine callOk_awp (ctx_ok eqOk hG) mixed (live := [true, true, true, true, true]) (dt := []) Tryz.func92 rfl (by kernel_rfl) (by kernel_rfl) fun w0 hlens => ?_
  generalize hz : cmpF (a, b) (c, d) = z
  have e : (z == -1) = decide (z = -1) := by rw [Bool.eq_iff_iff]; simp
  simp (config := {contextual := true}) [Tryz.f92, List.range, List.range.loop, ints, intss, int, bool, row, frac, fracs, ← List.map_take, ← List.map_drop, mCmpF_at, hz, e]

theorem addF_frac {x y : Int × Int} (h : (addF x y).2 = true) : fracOk (addF x y).1 = true ∧ fracOk x = true ∧ fracOk y = true := by
  unfold addF mkF at h ⊢
  split
  · rename_i h1
    rw [if_pos h1] at h
    simp only [Bool.and_eq_true] at h1
    split
    · rename_i h2; exact ⟨h2, h1.1, h1.2⟩
    · rename_i h2; rw [if_neg h2] at h; simp at h
  · rename_i h1; rw [if_neg h1] at h; simp at h
theorem cmpF_neg {x y : Int × Int} (hx : fracOk x = true) (hy : fracOk y = true) : cmpF x y < 0 ↔ cmpF x y = -1 := by
  unfold cmpF; rw [hx, hy]
  simp only [Bool.and_true, if_true]
  split
  · simp
  · split <;> simp

theorem nodup_le : ∀ {L M : List Nat}, L.Nodup → (∀ x ∈ L, x ∈ M) → L.length ≤ M.length
  | [], _, _, _ => by simp
  | x :: L, M, h, hs => by
    rw [List.nodup_cons] at h
    have hx := hs x (by simp)
    have := nodup_le (L := L) (M := M.erase x) h.2 fun y hy => (List.mem_erase_of_ne (fun (e : y = x) => h.1 (by rw [← e]; exact hy))).2 (hs y (by simp [hy]))
    rw [List.length_erase_of_mem hx] at this
    have hp := List.length_pos_of_mem hx
    simp only [List.length_cons]; omega

theorem posFrom_iff {v : Int} : ∀ {xs : List Int} {k : Nat}, 0 ≤ posFrom v xs k ↔ v ∈ xs
  | [], k => by simp [posFrom]
  | x :: xs, k => by
    rw [posFrom]
    by_cases e : x = v
    · rw [if_pos e]; subst e; simp
    · rw [if_neg e, posFrom_iff, List.mem_cons]; exact ⟨.inr, fun h => h.resolve_left fun e' => e e'.symm⟩
theorem pos_iff {v : Int} {xs : List Int} : 0 ≤ pos xs v ↔ v ∈ xs := posFrom_iff

/-- What a valid ranking is. -/
theorem rank_facts {m : Int} {l : List Int} (h : rankB m l = true) : 1 ≤ m ∧ m ≤ 5 ∧ (l.length : Int) = m ∧ (∀ i (hi : i < l.length), 0 ≤ l[i] ∧ l[i] < m) ∧ l.Nodup := by
  simp only [rankB, Bool.and_eq_true, decide_eq_true_eq, inR] at h
  obtain ⟨⟨⟨h1, h2⟩, h3⟩, h4⟩ := h
  have hat : ∀ i (hi : i < l.length), (0 ≤ l[i] ∧ l[i] < m) ∧ l[i] ∉ l.take i := fun i hi => by
    have := List.all_eq_true.1 h4 i (by simpa using hi)
    rw [rankAt_at hi] at this
    simp only [Bool.and_eq_true, inR, decide_eq_true_eq, Bool.not_eq_true', decide_eq_false_iff_not, pos_iff] at this
    exact ⟨⟨this.1.1, by omega⟩, this.2⟩
  refine ⟨h1, h2, h3, fun i hi => (hat i hi).1, ?_⟩
  rw [List.nodup_iff_pairwise_ne, List.pairwise_iff_getElem]
  intro i j hi hj hij e
  exact (hat j hj).2 (List.mem_iff_getElem.2 ⟨i, by simp; omega, by rw [List.getElem_take]; exact e⟩)
/-- A ranking names every candidate. -/
theorem rank_all {m : Int} {l : List Int} (h : rankB m l = true) {i : Nat} (hi : (i : Int) < m) : ∃ k, ∃ hk : k < l.length, l[k] = i := by
  obtain ⟨h1, h2, h3, h4, h5⟩ := rank_facts h
  apply Classical.byContradiction
  intro hno
  have hin : ∀ x ∈ l, 0 ≤ x ∧ x < m := fun x hx => by
    obtain ⟨j, hj, rfl⟩ := List.getElem_of_mem hx; exact h4 j hj
  have hni : (i : Int) ∉ l := fun hx => by
    obtain ⟨j, hj, e⟩ := List.getElem_of_mem hx; exact hno ⟨j, hj, e⟩
  have hnd : (i :: l.map Int.toNat).Nodup := by
    rw [List.nodup_cons]
    refine ⟨fun hx => ?_, ?_⟩
    · obtain ⟨x, hx, e⟩ := List.mem_map.1 hx
      have := hin x hx
      exact hni (by rw [← e, Int.toNat_of_nonneg this.1]; exact hx)
    · rw [List.nodup_iff_pairwise_ne, List.pairwise_map]
      rw [List.nodup_iff_pairwise_ne] at h5
      refine List.Pairwise.imp_of_mem (fun {a b} ha hb hab e => hab ?_) h5
      have := hin a ha; have := hin b hb; omega
  have := nodup_le (M := List.range l.length) hnd fun x hx => by
    rw [List.mem_range]
    rcases List.mem_cons.1 hx with rfl | hx
    · omega
    · obtain ⟨y, hy, rfl⟩ := List.mem_map.1 hx
      have := hin y hy; omega
  simp at this
  omega

end Go.Proofs.YtiieikknhheffaaGreatDoor.Ax

/-
  Contracts: HousesOk (both programs). No condition.
-/
namespace Go.Proofs.YtiieikknhheffaaGreatDoor.Ax
open Go Go.RowKit
set_option linter.unusedSimpArgs false

def ranksB (m : Int) (xss : List (Bool × List Int)) : Bool := xss.all fun r => rankB m r.2
noncomputable def mAreR : List AV → Option AV := mk (fun _ => True) (fun (p : (Int) × (Bool) × (List (Bool × List Int))) => [int p.1, intss p.2.1 p.2.2]) (fun p => bool (ranksB p.1 p.2.2))
theorem mAreR_at (m : Int) (nl : Bool) (xss : List (Bool × List Int)) : mAreR [.v (.int .i64 m), .sl nl 1 (xss.map row)] = some (.v (.bool (ranksB m xss))) :=
  mk_eq (enc := fun (p : (Int) × (Bool) × (List (Bool × List Int))) => [int p.1, intss p.2.1 p.2.2]) (x := (m, nl, xss)) (by rintro ⟨a0, a1, a2⟩ ⟨b0, b1, b2⟩ h; simp [ints, intss, int, bool, row, frac, fracs, map_int_inj, map_row_inj, frac_inj, map_frac_inj] at h; simp [h]) trivial
noncomputable def mL17 : List AV → Option AV := mk (fun _ => True) (fun (p : (Bool) × (List (Bool × List Int)) × (Int)) => [intss p.1 p.2.1, int p.2.2]) (fun p => bool (decide ((p.2.1.length : Int) = p.2.2) && ranksB p.2.2 p.2.1))
theorem mL17_at (nl : Bool) (xss : List (Bool × List Int)) (m : Int) : mL17 [.sl nl 1 (xss.map row), .v (.int .i64 m)] = some (.v (.bool (decide ((xss.length : Int) = m) && ranksB m xss))) :=
  mk_eq (enc := fun (p : (Bool) × (List (Bool × List Int)) × (Int)) => [intss p.1 p.2.1, int p.2.2]) (x := (nl, xss, m)) (by rintro ⟨a0, a1, a2⟩ ⟨b0, b1, b2⟩ h; simp [ints, intss, int, bool, row, frac, fracs, map_int_inj, map_row_inj, frac_inj, map_frac_inj] at h; simp [h]) trivial

theorem areRankings1 (m : Int) (r : Bool × List Int) : CallOk Tryz.prog 170 [row r, .fp (int m) 0] (.v (.bool (!rankB m r.2))) := by
  have hG : FnsOk Tryz.prog [(89, mRank)] := (.cons implRankingOk_ok .nil)
  refine callOk_awp (ctx_ok eqOk hG) mixed (live := [true, true, false, true]) (dt := []) Tryz.func170 rfl (by kernel_rfl) (by kernel_rfl) fun w0 hlens => ?_
  simp (config := {contextual := true}) [Tryz.f170, List.range, List.range.loop, ints, intss, int, bool, row, frac, fracs, ← List.map_take, ← List.map_drop, mRank_at]

set_option maxHeartbeats 1000000 in
theorem areRankings_ok : FnOk Tryz.prog 126 mAreR := by
  refine mk_ok fun ⟨m, nl, xss⟩ _ => ?_
  obtain ⟨mm, hm, hma⟩ := as_model (containsIntss (g := 170) (pure_fp (a := int m) (j := 0) pure_nil) (fun r => !rankB m r.2) nl xss (fun x _ => areRankings1 m x))
  simp only [intss, int, bool] at hma
  have hnn := not_any_not (p := fun r : Bool × List Int => rankB m r.2) (xs := xss)
  have hs : ranksB m xss = !(xss.any fun r => !rankB m r.2) := by unfold ranksB; rw [← hnn]
  rw [hs]
  generalize xss.any (fun r => !rankB m r.2) = bb at hma hnn
  have hG : FnsOk Tryz.prog [(169, mm)] := (.cons hm .nil)
  refine callOk_awp (ctx_ok eqOk hG) mixed (live := [true, true, true, false, true]) (dt := []) Tryz.func126 rfl (by kernel_rfl) (by kernel_rfl) fun w0 hlens => ?_
  simp (config := {contextual := true}) [Tryz.f126, List.range, List.range.loop, ints, intss, int, bool, row, frac, fracs, ← List.map_take, ← List.map_drop, hma]

def ranksAt (m : Int) (xss : List (Bool × List Int)) (k : Nat) : Bool := rankB m (xss.getD k (true, [])).2
theorem ranksAt_at {m : Int} {xss : List (Bool × List Int)} {k : Nat} (h : k < xss.length) : ranksAt m xss k = rankB m xss[k].2 := by unfold ranksAt; simp [List.getD_eq_getElem?_getD, h]
theorem ranks_allR {m : Int} {xss : List (Bool × List Int)} : ranksB m xss = allR xss.length (ranksAt m xss) := by
  unfold ranksB allR
  rw [Bool.eq_iff_iff]; simp only [List.all_eq_true, List.mem_range]
  constructor
  · intro h i hi
    rw [ranksAt_at hi]; exact h _ (List.getElem_mem _)
  · intro h x hx
    obtain ⟨i, hi, rfl⟩ := List.getElem_of_mem hx
    have := h i hi
    rwa [ranksAt_at hi] at this

def housesB (xss : List (Bool × List Int)) : Bool := inR 1 5 xss.length && ranksB xss.length xss
noncomputable def mHouses : List AV → Option AV := mk (fun _ => True) (fun (p : (Bool) × (List (Bool × List Int))) => [intss p.1 p.2]) (fun p => bool (housesB p.2))
theorem mHouses_at (nl : Bool) (xss : List (Bool × List Int)) : mHouses [.sl nl 1 (xss.map row)] = some (.v (.bool (housesB xss))) :=
  mk_eq (enc := fun (p : (Bool) × (List (Bool × List Int))) => [intss p.1 p.2]) (x := (nl, xss)) (by rintro ⟨a0, a1⟩ ⟨b0, b1⟩ h; simp [ints, intss, int, bool, row, frac, fracs, map_int_inj, map_row_inj, frac_inj, map_frac_inj] at h; simp [h]) trivial
set_option maxHeartbeats 1000000 in
theorem implHouses_ok : FnOk Tryz.prog 70 mHouses := by
  refine mk_ok fun ⟨nl, xss⟩ _ => ?_
  have hG : FnsOk Tryz.prog [(78, mWithin), (126, mAreR)] := (.cons within_ok (.cons areRankings_ok .nil))
  refine callOk_awp (ctx_ok eqOk hG) mixed (live := [true, false, true]) (dt := []) Tryz.func70 rfl (by kernel_rfl) (by kernel_rfl) fun w0 hlens => ?_
  cases h1 : inR 1 5 xss.length <;> simp (config := {contextual := true}) [Tryz.f70, List.range, List.range.loop, ints, intss, int, bool, row, frac, fracs, ← List.map_take, ← List.map_drop, mWithin_in, mAreR_at, mL17_at, h1, housesB]

end Go.Proofs.YtiieikknhheffaaGreatDoor.Ax

/-
  Lists of truth values. No condition.
-/
namespace Go.Proofs.YtiieikknhheffaaGreatDoor.Ax
open Go Go.RowKit

def bools (nl : Bool) (bs : List Bool) : AV := .sl nl 1 (bs.map bool)
theorem map_bool_inj {a b : List Bool} : a.map bool = b.map bool ↔ a = b := (List.map_inj_right (fun x y h => by simpa [bool] using h))

end Go.Proofs.YtiieikknhheffaaGreatDoor.Ax

/-
  Contracts: the first house of a list that is left (both programs). No condition.
-/
namespace Go.Proofs.YtiieikknhheffaaGreatDoor.Ax
open Go Go.RowKit
set_option linter.unusedSimpArgs false

/-- The first number of a list for which something holds. -/
def fstI (p : Int → Bool) (l : List Int) : Option Int := l.find? p
theorem fstI_idx {p : Int → Bool} {l : List Int} {x : Int} (h : fstI p l = some x) : ∃ k : Nat, ∃ hk : k < l.length, idxOf p l = k ∧ l[k] = x ∧ p x = true := by
  unfold fstI at h
  obtain ⟨hp, k, hk, e, hno⟩ := List.find?_eq_some_iff_getElem.1 h
  refine ⟨k, hk, idxOf_found hk (fun j hj hjk => by simpa using hno j hjk) (by rw [e]; exact hp), e, hp⟩

theorem firstOf1 (nl : Bool) (xs : List Int) (x : Int) : CallOk Tryz.prog 173 [int x, .fp (ints nl xs) 0] (.v (.bool (decide (0 ≤ pos xs x)))) := by
  have hG : FnsOk Tryz.prog [(143, mHas)] := (.cons slicesContains_ok .nil)
  refine callOk_awp (ctx_ok eqOk hG) mixed (live := [true, true, false, true]) (dt := []) Tryz.func173 rfl (by kernel_rfl) (by kernel_rfl) fun w0 hlens => ?_
  simp (config := {contextual := true}) [Tryz.f173, List.range, List.range.loop, ints, intss, int, bool, row, frac, fracs, ← List.map_take, ← List.map_drop, mHas_at]

noncomputable def mFstL : List AV → Option AV := mk (fun (p : Bool × List Int × Bool × List Int × Int) => fstI (fun h => decide (0 ≤ pos p.2.2.2.1 h)) p.2.1 = some p.2.2.2.2) (fun p => [ints p.1 p.2.1, ints p.2.2.1 p.2.2.2.1]) (fun p => int p.2.2.2.2)
theorem mFstL_at (nl : Bool) (l : List Int) (nl' : Bool) (xs : List Int) (x : Int) (h : fstI (fun h => decide (0 ≤ pos xs h)) l = some x) : mFstL [.sl nl 1 (l.map int), .sl nl' 1 (xs.map int)] = some (.v (.int .i64 x)) := by
  unfold mFstL mk
  have hex : ∃ p : Bool × List Int × Bool × List Int × Int, fstI (fun h => decide (0 ≤ pos p.2.2.2.1 h)) p.2.1 = some p.2.2.2.2 ∧ [ints p.1 p.2.1, ints p.2.2.1 p.2.2.2.1] = [.sl nl 1 (l.map int), .sl nl' 1 (xs.map int)] := ⟨(nl, l, nl', xs, x), h, rfl⟩
  rw [dif_pos hex]
  have key : ∀ q : Bool × List Int × Bool × List Int × Int, fstI (fun h => decide (0 ≤ pos q.2.2.2.1 h)) q.2.1 = some q.2.2.2.2 → [ints q.1 q.2.1, ints q.2.2.1 q.2.2.2.1] = [AV.sl nl 1 (l.map int), .sl nl' 1 (xs.map int)] → q.2.2.2.2 = x := by
    rintro ⟨a, b, c, d, e⟩ k1 k2
    simp only [ints, List.cons.injEq, AV.sl.injEq, true_and, and_true, map_int_inj] at k1 k2
    obtain ⟨⟨_, rfl⟩, _, rfl⟩ := k2
    rw [h] at k1
    exact (Option.some.inj k1).symm
  show some (int hex.choose.2.2.2.2) = some (int x)
  rw [key _ hex.choose_spec.1 hex.choose_spec.2]

set_option maxHeartbeats 1000000 in
theorem firstOfLeft_ok : FnOk Tryz.prog 130 mFstL := by
  refine mk_ok fun ⟨nl, l, nl', xs, x⟩ h => ?_
  simp only at h
  obtain ⟨k, hk, e1, e2, _⟩ := fstI_idx h
  have hI := indexInts (g := 173) (caps := [.fp (ints nl' xs) 0]) ⟨fun _ => rfl, rfl, fun _ => rfl⟩ (fun h => decide (0 ≤ pos xs h)) nl l (fun x _ => firstOf1 nl' xs x)
  rw [e1] at hI
  have hat : only [ints nl l, .fn 173 [.fp (ints nl' xs) 0]] (int (k : Int)) [.sl nl 1 (l.map int), .fn 173 [.fp (.sl nl' 1 (xs.map int)) 0]] = some (.v (.int .i64 (k : Int))) := only_at
  have hIm := only_ok hI
  generalize only [ints nl l, .fn 173 [.fp (ints nl' xs) 0]] (int (k : Int)) = m at hIm hat
  have hG : FnsOk Tryz.prog [(172, m)] := (.cons hIm .nil)
  refine callOk_awp (ctx_ok eqOk hG) mixed (live := [true, true, false, true, true]) (dt := []) Tryz.func130 rfl (by kernel_rfl) (by kernel_rfl) fun w0 hlens => ?_
  clear hlens
  simp (config := {contextual := true}) [Tryz.f130, List.range, List.range.loop, ints, intss, int, bool, row, frac, fracs, ← List.map_take, ← List.map_drop, hat, hk, e2]

/-- The first that is left, or -1. -/
def fstB (bs : List Bool) (l : List Int) : Int := (fstI (fun h => bs.getD h.toNat false) l).getD (-1)
noncomputable def mFstB : List AV → Option AV := mk (fun (p : Bool × List Int × List Bool) => ∀ x ∈ p.2.1, 0 ≤ x ∧ x.toNat < p.2.2.length) (fun p => [ints p.1 p.2.1, bools false p.2.2]) (fun p => int (fstB p.2.2 p.2.1))
theorem mFstB_at (nl : Bool) (l : List Int) (bs : List Bool) (h : ∀ x ∈ l, 0 ≤ x ∧ x.toNat < bs.length) : mFstB [.sl nl 1 (l.map int), .sl false 1 (bs.map bool)] = some (.v (.int .i64 (fstB bs l))) :=
  mk_eq (enc := fun (p : Bool × List Int × List Bool) => [ints p.1 p.2.1, bools false p.2.2]) (x := (nl, l, bs)) (by rintro ⟨a, b, c⟩ ⟨d, e, f⟩ h; simp [ints, bools, map_int_inj, map_bool_inj] at h; simp [h]) h

end Go.Proofs.YtiieikknhheffaaGreatDoor.Ax
