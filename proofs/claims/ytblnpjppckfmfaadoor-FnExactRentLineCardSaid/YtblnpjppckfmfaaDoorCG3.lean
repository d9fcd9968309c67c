/-
  Contracts: IsDivision of the reference, PieceEnvy (both programs). No condition.
-/
import Derived.Test.YtblnpjppckfmfaaDoorCG2
import Derived.Test.YtblnpjppckfmfaaDoorCG1
import Derived.Test.YtblnpjppckfmfaaDoorCK4
namespace Go.Proofs.YtblnpjppckfmfaaDoor.Ax
open Go Go.RowKit
set_option linter.unusedSimpArgs false

theorem posFrom_app {v : Int} {xs ys : List Int} : ∀ {k : Nat}, posFrom v (xs ++ ys) k = if 0 ≤ posFrom v xs k then posFrom v xs k else posFrom v ys (k + xs.length) := by
  induction xs with
  | nil => intro k; simp [posFrom]
  | cons x xs ih =>
    intro k
    simp only [List.cons_append, posFrom]
    by_cases e : x = v
    · simp [e]
    · simp only [if_neg e]
      rw [ih]; simp [Nat.add_assoc, Nat.add_comm 1]
theorem pos_snoc {v x : Int} {xs : List Int} : decide (0 ≤ pos (xs ++ [x]) v) = (decide (0 ≤ pos xs v) || decide (x = v)) := by
  unfold pos
  rw [posFrom_app]
  by_cases h : 0 ≤ posFrom v xs 0
  · simp [h]
  · by_cases e : x = v
    · simp [h, posFrom, e]
    · simp [h, posFrom, e]

/-- Whose pieces were met among the first k. -/
def seenL (n : Nat) (l : List Int) (k : Nat) : List Bool := (List.range n).map fun (v : Nat) => decide (0 ≤ pos (l.take k) v)
theorem seenL_zero {n : Nat} {l : List Int} : seenL n l 0 = List.replicate n false := by
  unfold seenL
  apply List.ext_getElem
  · simp
  · intro i h1 h2; simp [pos, posFrom]
theorem seenL_len {n : Nat} {l : List Int} {k : Nat} : (seenL n l k).length = n := by simp [seenL]
theorem seenL_at {n : Nat} {l : List Int} {k i : Nat} (h : i < (seenL n l k).length) : (seenL n l k)[i] = decide (0 ≤ pos (l.take k) (i : Int)) := by simp [seenL]
theorem seenL_get {n : Nat} {l : List Int} {k : Nat} {x : Int} (h0 : 0 ≤ x) (h : x.toNat < n) : (seenL n l k)[x.toNat]? = some (decide (0 ≤ pos (l.take k) x)) := by
  unfold seenL
  have e : ((x.toNat : Nat) : Int) = x := by omega
  simp [h, e]
theorem seenL_set {n : Nat} {l : List Int} {k : Nat} (hk : k < l.length) (h0 : 0 ≤ l[k]) (_h : l[k].toNat < n) : ((seenL n l k).map bool).set l[k].toNat (bool true) = (seenL n l (k + 1)).map bool := by
  rw [← List.map_set]
  congr 1
  apply List.ext_getElem
  · simp [seenL]
  · intro i h1 h2
    rw [List.getElem_set]
    simp only [seenL, List.getElem_map, List.getElem_range, List.take_succ_eq_append_getElem hk, pos_snoc]
    by_cases e : l[k].toNat = i
    · simp [← e]; omega
    · have : l[k] ≠ (i : Int) := by omega
      simp [e, this]

theorem div_rect {xss : List (Bool × List Int)} {l : List Int} (h : divB xss l = true) : rectB xss 3 10 100 = true ∧ l.length = wid xss := by
  simp only [divB, Bool.and_eq_true, decide_eq_true_eq] at h
  exact ⟨h.1.1.1, h.1.1.2⟩

theorem wo_pre {xss : List (Bool × List Int)} {l : List Int} {a b c : Int} (h : rectB xss a b c = true) (hl : l.length ≤ wid xss) {i : Nat} (hi : i < xss.length) : (0 : Int) ≤ (i : Int) ∧ ((i : Int)).toNat < xss.length ∧ l.length ≤ (xss.getD ((i : Int)).toNat (true, [])).2.length := by
  have hr := (rect_row h hi).1
  refine ⟨by omega, by simpa using hi, ?_⟩
  rw [Int.toNat_natCast, List.getD_eq_getElem?_getD, List.getElem?_eq_getElem hi]
  simp only [Option.getD_some]; omega

/-- How much person i envies person k. -/
def envD (xss : List (Bool × List Int)) (l : List Int) (i k : Nat) : Int := IntKind.i64.wrap (wo xss l i k - wo xss l i i)
/-- The most that person i envies one of the first k, and m. -/
def peRow (xss : List (Bool × List Int)) (l : List Int) (i : Nat) (m : Int) : Nat → Int
  | 0 => m
  | k + 1 => max (peRow xss l i m k) (envD xss l i k)
def peTo (xss : List (Bool × List Int)) (l : List Int) : Nat → Int
  | 0 => 0
  | i + 1 => peRow xss l i (peTo xss l i) xss.length
theorem peRow_nn {xss : List (Bool × List Int)} {l : List Int} {i : Nat} {m : Int} (h : 0 ≤ m) : ∀ k, 0 ≤ peRow xss l i m k
  | 0 => h
  | k + 1 => by have := peRow_nn (xss := xss) (l := l) (i := i) h k; rw [peRow]; omega
theorem peTo_nn {xss : List (Bool × List Int)} {l : List Int} : ∀ i, 0 ≤ peTo xss l i
  | 0 => by simp [peTo]
  | i + 1 => peRow_nn (peTo_nn i) _

noncomputable def mPiece : List AV → Option AV := mk (fun _ => True) (fun (p : (Bool) × (List (Bool × List Int)) × (Bool) × (List Int)) => [intss p.1 p.2.1, ints p.2.2.1 p.2.2.2]) (fun p => int (if divB p.2.1 p.2.2.2 = true then peTo p.2.1 p.2.2.2 p.2.1.length else -1))
theorem mPiece_at (nl : Bool) (xss : List (Bool × List Int)) (nl' : Bool) (l : List Int) : mPiece [.sl nl 1 (xss.map row), .sl nl' 1 (l.map int)] = some (.v (.int .i64 (if divB xss l = true then peTo xss l xss.length else -1))) :=
  mk_eq (enc := fun (p : (Bool) × (List (Bool × List Int)) × (Bool) × (List Int)) => [intss p.1 p.2.1, ints p.2.2.1 p.2.2.2]) (x := (nl, xss, nl', l)) (by rintro ⟨a0, a1, a2, a3⟩ ⟨b0, b1, b2, b3⟩ h; simp [ints, intss, int, bool, row, frac, fracs, map_int_inj, map_row_inj, frac_inj, map_frac_inj] at h; simp [h]) trivial

end Go.Proofs.YtblnpjppckfmfaaDoor.Ax

/-
  Contracts: RankingOk (both programs). No condition.
-/
namespace Go.Proofs.YtblnpjppckfmfaaDoor.Ax
open Go Go.RowKit
set_option linter.unusedSimpArgs false

/-- Number k of the list is a candidate of m who was not met before. -/
def rankAt (m : Int) (l : List Int) (k : Nat) : Bool := inR 0 (m - 1) (l.getD k 0) && !decide (0 ≤ pos (l.take k) (l.getD k 0))
def rankB (m : Int) (l : List Int) : Bool := inR 1 5 m && decide (l.length = m) && allR l.length (rankAt m l)

noncomputable def mRank : List AV → Option AV := mk (fun _ => True) (fun (p : (Int) × (Bool) × (List Int)) => [int p.1, ints p.2.1 p.2.2]) (fun p => bool (rankB p.1 p.2.2))
theorem mRank_at (m : Int) (nl : Bool) (l : List Int) : mRank [.v (.int .i64 m), .sl nl 1 (l.map int)] = some (.v (.bool (rankB m l))) :=
  mk_eq (enc := fun (p : (Int) × (Bool) × (List Int)) => [int p.1, ints p.2.1 p.2.2]) (x := (m, nl, l)) (by rintro ⟨a0, a1, a2⟩ ⟨b0, b1, b2⟩ h; simp [ints, intss, int, bool, row, frac, fracs, map_int_inj, map_row_inj, frac_inj, map_frac_inj] at h; simp [h]) trivial

theorem rankAt_at {m : Int} {l : List Int} {k : Nat} (h : k < l.length) : rankAt m l k = (inR 0 (m - 1) l[k] && !decide (0 ≤ pos (l.take k) l[k])) := by unfold rankAt; rw [getD_at h]

set_option maxHeartbeats 2000000 in
theorem implRankingOk_ok : FnOk Tryd.prog 67 mRank := by
  refine mk_ok fun ⟨m, nl, l⟩ _ => ?_
  have hG : FnsOk Tryd.prog [(48, mWithin), (87, mHas)] := (.cons within_ok (.cons slicesContains_ok .nil))
  refine callOk_awp (ctx_ok eqOk hG) mixed (live := [true, true, false, false, true, true, true, false, false, false, false, false, false, false, false, true, true, true, true, true, false, false, false, false, false, false, false, false, false, false, false, false, false, false, true]) (dt := []) Tryd.func67 rfl (by kernel_rfl) (by kernel_rfl) fun w0 hlens => ?_
  clear hlens
  cases h1 : inR 1 5 m with
  | false => simp (config := {contextual := true}) [Tryd.f67, List.range, List.range.loop, ints, intss, int, bool, row, frac, fracs, ← List.map_take, ← List.map_drop, mWithin_in, h1, rankB]
  | true =>
  have hm := h1
  simp only [inR, Bool.and_eq_true, decide_eq_true_eq] at hm
  by_cases h2 : (l.length : Int) = m
  rotate_left
  · have h2' : ((l.length : Int) != m) = true := by simpa using h2
    simp (config := {contextual := true}) [Tryd.f67, List.range, List.range.loop, ints, intss, int, bool, row, frac, fracs, ← List.map_take, ← List.map_drop, mWithin_in, h1, h2, h2', rankB]
  subst h2
  have hw0 : IntKind.i64.wrap ((l.length : Int) - 1) = (l.length : Int) - 1 := wrapI (by omega) (by omega)
  have hr : rankB l.length l = allR l.length (rankAt l.length l) := by simp [rankB, h1]
  generalize hres : rankB l.length l = r at hr
  simp (config := {contextual := true}) [Tryd.f67, List.range, List.range.loop, ints, intss, int, bool, row, frac, fracs, ← List.map_take, ← List.map_drop, mWithin_in, h1]
  refine awp_range (live := [true, true, false, false, true, true, true, false, false, false, false, false, false, false, false, true, true, true, true, true, false, false, false, false, false, false, false, false, false, false, false, false, false, false, true]) (ctx_ok eqOk hG) mixed [true, true, false, false, false, false, false, false, false, false, false, false, false, false, false, false, true, true, true] (l.length) (fun k => upto (rankAt l.length l) k) (fun k => ⟨[int l.length, ints nl l, .junk, .junk, .junk, .junk, .junk, .junk, .junk, .junk, .junk, .junk, .junk, .junk, .junk, .junk, ints nl l, int l.length, int k, .junk, .junk, .junk, .junk, .junk, .junk, .junk, .junk, .junk, .junk, .junk, .junk, .junk, .junk, .junk, .junk, .junk], []⟩) ?_ (by simp [sub, slotsLe, clean, keep, refsL, refs, once, place, renL, ren, List.replicate, int, bool, ints]) ?_ ?_ ?_
  · omega
  · exact upto_zero
  · intro k h hp hwk
    have hf : rankAt l.length l k = false → r = false := fun hf => by rw [hr]; exact allR_no h hf
    have ht := upto_succ hp
    clear hp
    have e := rankAt_at (m := l.length) h
    generalize rankAt l.length l = f at *
    generalize hi : inR 0 ((l.length : Int) - 1) l[k] = ii at e
    rw [e] at hf ht
    simp at hf ht
    simp (config := {contextual := true}) [List.range, List.range.loop, ints, intss, int, bool, row, frac, fracs, ← List.map_take, ← List.map_drop, h, hwk, hw0, mWithin_in, mHas_at, hi, Nat.le_of_lt h]
    grind
  · intro hp
    rw [allR_yes hp] at hr
    subst hr
    simp (config := {contextual := true}) [List.range, List.range.loop, ints, intss, int, bool, row, frac, fracs, ← List.map_take, ← List.map_drop]

set_option maxHeartbeats 2000000 in
theorem specRankingOk_ok : FnOk Tryd.prog 82 mRank := by
  refine mk_ok fun ⟨m, nl, l⟩ _ => ?_
  have hG : FnsOk Tryd.prog [(40, mWithin)] := (.cons l01In_ok .nil)
  refine callOk_awp (ctx_ok eqOk hG) mixed (live := [true, true, false, false, true, true, false, true, false, false, false, false, false, false, false, false, true, false, false, true, true, true, true, false, false, false, false, false, false, false, false, false, false, false, false, true]) (dt := []) Tryd.func82 rfl (by kernel_rfl) (by kernel_rfl) fun w0 hlens => ?_
  clear hlens
  cases h1 : inR 1 5 m with
  | false => simp (config := {contextual := true}) [Tryd.f82, List.range, List.range.loop, ints, intss, int, bool, row, frac, fracs, ← List.map_take, ← List.map_drop, mWithin_in, h1, rankB]
  | true =>
  have hm := h1
  simp only [inR, Bool.and_eq_true, decide_eq_true_eq] at hm
  by_cases h2 : (l.length : Int) = m
  rotate_left
  · have h2' : ((l.length : Int) != m) = true := by simpa using h2
    simp (config := {contextual := true}) [Tryd.f82, List.range, List.range.loop, ints, intss, int, bool, row, frac, fracs, ← List.map_take, ← List.map_drop, mWithin_in, h1, h2, h2', rankB]
  subst h2
  have hw0 : IntKind.i64.wrap ((l.length : Int) - 1) = (l.length : Int) - 1 := wrapI (by omega) (by omega)
  have hr : rankB l.length l = allR l.length (rankAt l.length l) := by simp [rankB, h1]
  generalize hres : rankB l.length l = r at hr
  have hb1 : l.length ≤ 281474976710656 := by omega
  have hb2 : l.length ≤ 4611686018427387904 := by omega
  simp (config := {contextual := true}) [Tryd.f82, List.range, List.range.loop, ints, intss, int, bool, row, frac, fracs, ← List.map_take, ← List.map_drop, mWithin_in, h1, hb1, hb2]
  refine awp_range (live := [true, true, false, false, true, true, false, true, false, false, false, false, false, false, false, false, true, false, false, true, true, true, true, false, false, false, false, false, false, false, false, false, false, false, false, true]) (ctx_ok eqOk hG) mixed [true, false, false, false, false, true, false, false, false, false, false, false, false, false, false, false, false, false, false, true, true, true] (l.length) (fun k => upto (rankAt l.length l) k) (fun k => ⟨[int l.length, .junk, .junk, .junk, .junk, .ref 0 [] 0 l.length, .junk, .junk, .junk, .junk, .junk, .junk, .junk, .junk, .junk, .junk, .junk, .junk, .junk, ints nl l, int l.length, int k, .junk, .junk, .junk, .junk, .junk, .junk, .junk, .junk, .junk, .junk, .junk, .junk, .junk, .junk, .junk, .junk, .junk, .junk], [⟨true, .sl false 1 ((seenL l.length l k).map bool)⟩]⟩) ?_ (by simp [sub, slotsLe, clean, keep, refsL, refs, once, place, renL, ren, List.replicate, int, bool, ints, seenL_zero]) ?_ ?_ ?_
  · omega
  · exact upto_zero
  · intro k h hp hwk
    have hf : rankAt l.length l k = false → r = false := fun hf => by rw [hr]; exact allR_no h hf
    have ht := upto_succ hp
    clear hp
    have e := rankAt_at (m := l.length) h
    have i0 : inR 0 ((l.length : Int) - 1) l[k] = true → 0 ≤ l[k] := fun hi => by simp [inR] at hi; omega
    have i1 : inR 0 ((l.length : Int) - 1) l[k] = true → l[k].toNat < l.length := fun hi => by simp [inR] at hi; omega
    have i4 : inR 0 ((l.length : Int) - 1) l[k] = true → ((l[k].toNat : Nat) : Int) = l[k] := fun hi => by have := i0 hi; omega
    have i3 : inR 0 ((l.length : Int) - 1) l[k] = true → ((seenL l.length l k).map bool).set l[k].toNat (.v (.bool true)) = (seenL l.length l (k + 1)).map bool := fun hi => seenL_set h (i0 hi) (i1 hi)
    generalize rankAt l.length l = f at *
    rw [e] at hf ht
    simp at hf ht
    simp (config := {contextual := true}) [List.range, List.range.loop, ints, intss, int, bool, row, frac, fracs, ← List.map_take, ← List.map_drop, h, hwk, hw0, mWithin_in, i0, i1, i3, i4, seenL_at, seenL_len]
    grind
  · intro hp
    rw [allR_yes hp] at hr
    subst hr
    simp (config := {contextual := true}) [List.range, List.range.loop, ints, intss, int, bool, row, frac, fracs, ← List.map_take, ← List.map_drop]

end Go.Proofs.YtblnpjppckfmfaaDoor.Ax

/-
  Contracts: RentOk, valid rents (both programs). No condition.
-/
namespace Go.Proofs.YtblnpjppckfmfaaDoor.Ax
open Go Go.RowKit
set_option linter.unusedSimpArgs false

def rentAt (l : List Int) (m : Nat) : Bool := inR 0 1000 (l.getD m 0)
/-- Row k is as long as there are rows, all its values in the range. -/
def rentRow (xss : List (Bool × List Int)) (k : Nat) : Bool := decide ((xss.getD k (true, [])).2.length = xss.length) && allR (xss.getD k (true, [])).2.length (rentAt (xss.getD k (true, [])).2)
def rentB (xss : List (Bool × List Int)) : Bool := inR 1 4 xss.length && allR xss.length (rentRow xss)

noncomputable def mRent : List AV → Option AV := mk (fun _ => True) (fun (p : (Bool) × (List (Bool × List Int))) => [intss p.1 p.2]) (fun p => bool (rentB p.2))
theorem mRent_at (nl : Bool) (xss : List (Bool × List Int)) : mRent [.sl nl 1 (xss.map row)] = some (.v (.bool (rentB xss))) :=
  mk_eq (enc := fun (p : (Bool) × (List (Bool × List Int))) => [intss p.1 p.2]) (x := (nl, xss)) (by rintro ⟨a0, a1⟩ ⟨b0, b1⟩ h; simp [ints, intss, int, bool, row, frac, fracs, map_int_inj, map_row_inj, frac_inj, map_frac_inj] at h; simp [h]) trivial

theorem allR_iff {n : Nat} {f : Nat → Bool} : allR n f = true ↔ ∀ i, i < n → f i = true := by
  unfold allR; rw [List.all_eq_true]; simp
theorem rentRow_at {xss : List (Bool × List Int)} {k : Nat} (h : k < xss.length) : rentRow xss k = (decide (xss[k].2.length = xss.length) && allR xss[k].2.length (rentAt xss[k].2)) := by
  unfold rentRow; simp [List.getD_eq_getElem?_getD, h]
theorem rentAt_at {l : List Int} {m : Nat} (h : m < l.length) : rentAt l m = inR 0 1000 l[m] := by unfold rentAt; rw [getD_at h]
theorem rent_facts {xss : List (Bool × List Int)} (h : rentB xss = true) : 1 ≤ xss.length ∧ xss.length ≤ 4 ∧ ∀ i (hi : i < xss.length), xss[i].2.length = xss.length ∧ ∀ x ∈ xss[i].2, 0 ≤ x ∧ x ≤ 1000 := by
  simp only [rentB, Bool.and_eq_true, inR, decide_eq_true_eq] at h
  refine ⟨by omega, by omega, fun i hi => ?_⟩
  have hr := allR_iff.1 h.2 i hi
  rw [rentRow_at hi, Bool.and_eq_true, decide_eq_true_eq] at hr
  refine ⟨hr.1, fun x hx => ?_⟩
  obtain ⟨j, hj, rfl⟩ := List.getElem_of_mem hx
  have := allR_iff.1 hr.2 j hj
  rw [rentAt_at hj] at this
  simpa [inR] using this
theorem rent_rect {xss : List (Bool × List Int)} : (rectB xss 4 4 1000 && decide (wid xss = xss.length)) = rentB xss := by
  rw [Bool.eq_iff_iff, Bool.and_eq_true, decide_eq_true_eq]
  constructor
  · rintro ⟨h, hw⟩
    have hl := rect_len h
    have hp := rect_pos h
    simp only [rentB, Bool.and_eq_true, inR, decide_eq_true_eq]
    refine ⟨⟨by omega, by omega⟩, allR_iff.2 fun i hi => ?_⟩
    have hr := rect_row h hi
    rw [rentRow_at hi, Bool.and_eq_true, decide_eq_true_eq]
    refine ⟨by omega, allR_iff.2 fun j hj => ?_⟩
    rw [rentAt_at hj]
    have := hr.2 _ (List.getElem_mem hj)
    simpa [inR] using this
  · intro h
    obtain ⟨h1, h2, h3⟩ := rent_facts h
    cases xss with
    | nil => simp at h1
    | cons r l =>
      have h0 := (h3 0 (by simp)).1
      simp only [List.getElem_cons_zero] at h0
      refine ⟨?_, by simpa [wid] using h0⟩
      simp only [rectB, Bool.and_eq_true, List.all_eq_true, inR, decide_eq_true_eq]
      refine ⟨⟨⟨by simp only [List.length_cons] at h1 ⊢; omega, by omega⟩, by omega, by omega⟩, fun x hx => ?_⟩
      obtain ⟨j, hj, rfl⟩ := List.getElem_of_mem hx
      obtain ⟨k1, k2⟩ := h3 j hj
      simp only [rowIs, Bool.and_eq_true, decide_eq_true_eq, List.all_eq_true, inR]
      exact ⟨by omega, k2⟩

set_option maxHeartbeats 1000000 in
theorem implRentOk_ok : FnOk Tryd.prog 47 mRent := by
  refine mk_ok fun ⟨nl, xss⟩ _ => ?_
  have hG : FnsOk Tryd.prog [(66, mRect)] := (.cons rectangle_ok .nil)
  refine callOk_awp (ctx_ok eqOk hG) mixed (live := [true, false, true]) (dt := []) Tryd.func47 rfl (by kernel_rfl) (by kernel_rfl) fun w0 hlens => ?_
  clear hlens
  have hre := rent_rect (xss := xss)
  generalize rentB xss = r at *
  cases h1 : rectB xss 4 4 1000 with
  | false => rw [h1] at hre; subst hre; simp (config := {contextual := true}) [Tryd.f47, List.range, List.range.loop, ints, intss, int, bool, row, frac, fracs, ← List.map_take, ← List.map_drop, mRect_at, h1]
  | true =>
  rw [h1] at hre
  have h0 := rect_pos h1
  have hw := wid_eq h0
  have e : ((wid xss : Int) == (xss.length : Int)) = decide (wid xss = xss.length) := by
    rw [Bool.eq_iff_iff]; simp; omega
  simp (config := {contextual := true}) [Tryd.f47, List.range, List.range.loop, ints, intss, int, bool, row, frac, fracs, ← List.map_take, ← List.map_drop, mRect_at, h1, h0, hw, e]
  simpa using hre

set_option maxHeartbeats 2000000 in
theorem specRentOk_ok : FnOk Tryd.prog 39 mRent := by
  refine mk_ok fun ⟨nl, xss⟩ _ => ?_
  have hG : FnsOk Tryd.prog [(40, mWithin)] := (.cons l01In_ok .nil)
  refine callOk_awp (ctx_ok eqOk hG) mixed (live := [true, false, true, true, false, true, false, true, false, false, false, false, true, true, true, true, true, false, false, false, false, false, true, true, true, true, true, false, false, false, false, true]) (dt := []) Tryd.func39 rfl (by kernel_rfl) (by kernel_rfl) fun w0 hlens => ?_
  have hpr := (lens_intss.1 hlens.1).2
  clear hlens
  cases h1 : inR 1 4 xss.length with
  | false => simp (config := {contextual := true}) [Tryd.f39, List.range, List.range.loop, ints, intss, int, bool, row, frac, fracs, ← List.map_take, ← List.map_drop, mWithin_in, h1, rentB]
  | true =>
  have hl : xss.length ≤ 4 := by simp [inR] at h1; omega
  have hm : rentB xss = allR xss.length (rentRow xss) := by simp [rentB, h1]
  generalize hres : rentB xss = r at hm
  simp (config := {contextual := true}) [Tryd.f39, List.range, List.range.loop, ints, intss, int, bool, row, frac, fracs, ← List.map_take, ← List.map_drop, mWithin_in, h1]
  refine awp_range (live := [true, false, true, true, false, true, false, true, false, false, false, false, true, true, true, true, true, false, false, false, false, false, true, true, true, true, true, false, false, false, false, true]) (ctx_ok eqOk hG) mixed [false, false, false, true, false, false, false, false, false, false, false, false, false, true, true, true] (xss.length) (fun k => upto (rentRow xss) k) (fun k => ⟨[.junk, .junk, .junk, int xss.length, .junk, .junk, .junk, .junk, .junk, .junk, .junk, .junk, .junk, intss nl xss, int xss.length, int k, .junk, .junk, .junk, .junk, .junk, .junk, .junk, .junk, .junk, .junk, .junk, .junk, .junk, .junk, .junk, .junk, .junk, .junk], []⟩) ?_ (by simp [sub, slotsLe, clean, keep, refsL, refs, once, place, renL, ren, List.replicate, int, bool, intss]) ?_ ?_ ?_
  · omega
  · exact upto_zero
  · intro k h hp hwk
    have hf : rentRow xss k = false → r = false := fun hf => by rw [hm, allR_no h hf]
    have ht := upto_succ hp
    have e := rentRow_at h
    have hpk := (hpr xss[k] (List.getElem_mem _)).1
    by_cases hlk : xss[k].2.length = xss.length
    rotate_left
    · have hlk' : ((xss[k].2.length : Int) != (xss.length : Int)) = true := by simp; omega
      rw [hf (by rw [e]; simp [hlk])]
      simp (config := {contextual := true}) [List.range, List.range.loop, ints, intss, int, bool, row, frac, fracs, ← List.map_take, ← List.map_drop, h, hlk, hlk']
    simp (config := {contextual := true}) [List.range, List.range.loop, ints, intss, int, bool, row, frac, fracs, ← List.map_take, ← List.map_drop, h, hlk]
    have hlk2 : (xss.length : Int) = (xss[k].2.length : Int) := by omega
    refine awp_range (live := [true, false, true, true, false, true, false, true, false, false, false, false, true, true, true, true, true, false, false, false, false, false, true, true, true, true, true, false, false, false, false, true]) (ctx_ok eqOk hG) mixed [false, false, false, true, false, false, false, false, false, false, false, false, false, true, true, true, false, false, false, false, false, false, false, true, true, true] (xss[k].2.length) (fun m => upto (rentAt xss[k].2) m) (fun m => ⟨[.junk, .junk, .junk, int xss.length, .junk, .junk, .junk, .junk, .junk, .junk, .junk, .junk, .junk, intss nl xss, int xss.length, int k, .junk, .junk, .junk, .junk, .junk, .junk, .junk, row xss[k], int xss[k].2.length, int m, .junk, .junk, .junk, .junk, .junk, .junk, .junk, .junk], []⟩) ?_ (by simp [sub, slotsLe, clean, keep, refsL, refs, once, place, renL, ren, List.replicate, int, bool, intss, row, hlk2]) ?_ ?_ ?_
    · omega
    · exact upto_zero
    · intro m hm' hpm hwm
      have hf2 : rentAt xss[k].2 m = false → r = false := fun hf2 => hf (by rw [e, allR_no hm' hf2]; simp)
      have ht2 := upto_succ hpm
      rw [rentAt_at hm'] at hf2 ht2
      cases hi : inR 0 1000 xss[k].2[m] with
      | false => rw [hf2 hi]; simp (config := {contextual := true}) [List.range, List.range.loop, ints, intss, int, bool, row, frac, fracs, ← List.map_take, ← List.map_drop, h, hm', hwm, mWithin_in, hi]
      | true => simp (config := {contextual := true}) [List.range, List.range.loop, ints, intss, int, bool, row, frac, fracs, ← List.map_take, ← List.map_drop, h, hm', hwm, mWithin_in, hi, ht2 hi]
    · intro hpm
      have := ht (by rw [e, allR_yes hpm]; simp [hlk])
      simp (config := {contextual := true}) [List.range, List.range.loop, ints, intss, int, bool, row, frac, fracs, ← List.map_take, ← List.map_drop, h, hwk, this, hlk]
  · intro hp
    rw [allR_yes hp] at hm
    subst hm
    simp (config := {contextual := true}) [List.range, List.range.loop, ints, intss, int, bool, row, frac, fracs, ← List.map_take, ← List.map_drop]

/-- Values, a choice of rooms, rents. -/
def rentsB (xss : List (Bool × List Int)) (l : List Int) (fs : List (Int × Int)) : Bool := rentB xss && rankB xss.length l && decide (fs.length = xss.length) && fs.all fracOk

noncomputable def mRents : List AV → Option AV := mk (fun _ => True) (fun (p : (Bool) × (List (Bool × List Int)) × (Bool) × (List Int) × (Bool) × (List (Int × Int))) => [intss p.1 p.2.1, ints p.2.2.1 p.2.2.2.1, fracs p.2.2.2.2.1 p.2.2.2.2.2]) (fun p => bool (rentsB p.2.1 p.2.2.2.1 p.2.2.2.2.2))
theorem mRents_at (nl : Bool) (xss : List (Bool × List Int)) (nl1 : Bool) (l : List Int) (nl2 : Bool) (fs : List (Int × Int)) : mRents [.sl nl 1 (xss.map row), .sl nl1 1 (l.map int), .sl nl2 2 (fs.map frac)] = some (.v (.bool (rentsB xss l fs))) :=
  mk_eq (enc := fun (p : (Bool) × (List (Bool × List Int)) × (Bool) × (List Int) × (Bool) × (List (Int × Int))) => [intss p.1 p.2.1, ints p.2.2.1 p.2.2.2.1, fracs p.2.2.2.2.1 p.2.2.2.2.2]) (x := (nl, xss, nl1, l, nl2, fs)) (by rintro ⟨a0, a1, a2, a3, a4, a5⟩ ⟨b0, b1, b2, b3, b4, b5⟩ h; simp [ints, intss, int, bool, row, frac, fracs, map_int_inj, map_row_inj, frac_inj, map_frac_inj] at h; simp [h]) trivial
noncomputable def mL25Ok : List AV → Option AV := mk (fun _ => True) (fun (p : (Bool) × (List (Bool × List Int)) × (Bool) × (List Int)) => [intss p.1 p.2.1, ints p.2.2.1 p.2.2.2]) (fun p => bool (rentB p.2.1 && rankB p.2.1.length p.2.2.2))
theorem mL25Ok_at (nl : Bool) (xss : List (Bool × List Int)) (nl1 : Bool) (l : List Int) : mL25Ok [.sl nl 1 (xss.map row), .sl nl1 1 (l.map int)] = some (.v (.bool (rentB xss && rankB xss.length l))) :=
  mk_eq (enc := fun (p : (Bool) × (List (Bool × List Int)) × (Bool) × (List Int)) => [intss p.1 p.2.1, ints p.2.2.1 p.2.2.2]) (x := (nl, xss, nl1, l)) (by rintro ⟨a0, a1, a2, a3⟩ ⟨b0, b1, b2, b3⟩ h; simp [ints, intss, int, bool, row, frac, fracs, map_int_inj, map_row_inj, frac_inj, map_frac_inj] at h; simp [h]) trivial

theorem rank_len {m : Int} {l : List Int} (h : rankB m l = true) : (l.length : Int) = m := by
  simp only [rankB, Bool.and_eq_true, decide_eq_true_eq] at h; exact h.1.2
theorem rank_in {m : Int} {l : List Int} (h : rankB m l = true) {i : Nat} (hi : i < l.length) : 0 ≤ l[i] ∧ l[i] < m := by
  simp only [rankB, Bool.and_eq_true] at h
  have := allR_iff.1 h.2 i hi
  rw [rankAt_at hi, Bool.and_eq_true] at this
  have h2 := this.1
  simp only [inR, Bool.and_eq_true, decide_eq_true_eq] at h2
  omega

set_option maxHeartbeats 1000000 in
theorem l25Ok_ok : FnOk Tryd.prog 61 mL25Ok := by
  refine mk_ok fun ⟨nl, xss, nl1, l⟩ _ => ?_
  have hG : FnsOk Tryd.prog [(39, mRent), (82, mRank)] := (.cons specRentOk_ok (.cons specRankingOk_ok .nil))
  refine callOk_awp (ctx_ok eqOk hG) mixed (live := [true, true, false, false, true]) (dt := []) Tryd.func61 rfl (by kernel_rfl) (by kernel_rfl) fun w0 hlens => ?_
  clear hlens
  cases h1 : rentB xss <;> simp (config := {contextual := true}) [Tryd.f61, List.range, List.range.loop, ints, intss, int, bool, row, frac, fracs, ← List.map_take, ← List.map_drop, mRent_at, mRank_at, h1]

end Go.Proofs.YtblnpjppckfmfaaDoor.Ax

/-
  Contracts: all rankings (both programs), the worth of a choice of rooms (both programs). No condition.
-/
namespace Go.Proofs.YtblnpjppckfmfaaDoor.Ax
open Go Go.RowKit
set_option linter.unusedSimpArgs false

/-- Each person a room, no more. -/
def rmPre (xss : List (Bool × List Int)) (l : List Int) : Prop := l.length ≤ xss.length ∧ ∀ i, i < l.length → 0 ≤ l.getD i 0 ∧ l.getD i 0 < ((xss.getD i (true, [])).2.length : Int)

noncomputable def mRoomV : List AV → Option AV := mk (fun p => rmPre p.2.1 p.2.2.2) (fun (p : (Bool) × (List (Bool × List Int)) × (Bool) × (List Int)) => [intss p.1 p.2.1, ints p.2.2.1 p.2.2.2]) (fun p => int (awTo p.2.1 p.2.2.2 p.2.2.2.length))
theorem mRoomV_at (nl : Bool) (xss : List (Bool × List Int)) (nl' : Bool) (l : List Int) (hpre : rmPre xss l) : mRoomV [.sl nl 1 (xss.map row), .sl nl' 1 (l.map int)] = some (.v (.int .i64 (awTo xss l l.length))) :=
  mk_eq (enc := fun (p : (Bool) × (List (Bool × List Int)) × (Bool) × (List Int)) => [intss p.1 p.2.1, ints p.2.2.1 p.2.2.2]) (x := (nl, xss, nl', l)) (by rintro ⟨a0, a1, a2, a3⟩ ⟨b0, b1, b2, b3⟩ h; simp [ints, intss, int, bool, row, frac, fracs, map_int_inj, map_row_inj, frac_inj, map_frac_inj] at h; simp [h]) hpre

set_option maxHeartbeats 1000000 in
theorem roomValue_ok : FnOk Tryd.prog 72 mRoomV := by
  refine mk_ok fun ⟨nl, xss, nl', l⟩ ⟨hp1, hp2⟩ => ?_
  simp only at hp1 hp2
  have hG : FnsOk Tryd.prog [] := .nil
  refine callOk_awp (ctx_ok eqOk hG) mixed (live := [true, true, false, false, true, true, true, true, true, true, true, true]) (dt := []) Tryd.func72 rfl (by kernel_rfl) (by kernel_rfl) fun w0 hlens => ?_
  have hl : l.length ≤ 9223372036854775807 := (lens_ints.1 hlens.2.1).1
  clear hlens
  simp (config := {contextual := true}) [Tryd.f72, List.range, List.range.loop, ints, intss, int, bool, row, frac, fracs, ← List.map_take, ← List.map_drop]
  refine awp_range (live := [true, true, false, false, true, true, true, true, true, true, true, true]) (ctx_ok eqOk hG) mixed [true, false, false, false, false, true, false, false, true, true, true] (l.length) (fun k => True) (fun k => ⟨[intss nl xss, .junk, .junk, .junk, .junk, int (awTo xss l k), .junk, .junk, ints nl' l, int l.length, int k, .junk, .junk, .junk, .junk, .junk, .junk, .junk, .junk, .junk, .junk, .junk, .junk, .junk, .junk, .junk], []⟩) ?_ (by simp [sub, slotsLe, clean, keep, refsL, refs, once, place, renL, ren, List.replicate, int, bool, intss, ints, awTo]) ?_ ?_ ?_
  · exact hl
  · trivial
  · intro k h _ hw
    have hk : k < xss.length := by omega
    obtain ⟨h0, hr⟩ := hp2 k h
    rw [getD_at h] at h0
    rw [getD_at h, List.getD_eq_getElem?_getD, List.getElem?_eq_getElem hk] at hr
    simp only [Option.getD_some] at hr
    have hg : xss[k].2[l[k].toNat]? = some (ent xss k l[k]) := ent_get hk (by omega)
    have e : awTo xss l (k + 1) = IntKind.i64.wrap (awTo xss l k + ent xss k l[k]) := by rw [awTo, getD_at h, if_pos h0]
    simp (config := {contextual := true}) [List.range, List.range.loop, ints, intss, int, bool, row, frac, fracs, ← List.map_take, ← List.map_drop, h, hw, Nat.le_of_lt h, hk, hg, e, h0]
  · intro _
    simp (config := {contextual := true}) [List.range, List.range.loop, ints, intss, int, bool, row, frac, fracs, ← List.map_take, ← List.map_drop]

set_option maxHeartbeats 1000000 in
theorem l25Value_ok : FnOk Tryd.prog 65 mRoomV := by
  refine mk_ok fun ⟨nl, xss, nl', l⟩ ⟨hp1, hp2⟩ => ?_
  simp only at hp1 hp2
  have hG : FnsOk Tryd.prog [] := .nil
  refine callOk_awp (ctx_ok eqOk hG) mixed (live := [true, true, false, false, true, true, true, true, true, true, true, true]) (dt := []) Tryd.func65 rfl (by kernel_rfl) (by kernel_rfl) fun w0 hlens => ?_
  have hl : l.length ≤ 9223372036854775807 := (lens_ints.1 hlens.2.1).1
  clear hlens
  simp (config := {contextual := true}) [Tryd.f65, List.range, List.range.loop, ints, intss, int, bool, row, frac, fracs, ← List.map_take, ← List.map_drop]
  refine awp_range (live := [true, true, false, false, true, true, true, true, true, true, true, true]) (ctx_ok eqOk hG) mixed [true, false, false, false, false, true, false, false, true, true, true] (l.length) (fun k => True) (fun k => ⟨[intss nl xss, .junk, .junk, .junk, .junk, int (awTo xss l k), .junk, .junk, ints nl' l, int l.length, int k, .junk, .junk, .junk, .junk, .junk, .junk, .junk, .junk, .junk, .junk, .junk, .junk, .junk, .junk, .junk], []⟩) ?_ (by simp [sub, slotsLe, clean, keep, refsL, refs, once, place, renL, ren, List.replicate, int, bool, intss, ints, awTo]) ?_ ?_ ?_
  · exact hl
  · trivial
  · intro k h _ hw
    have hk : k < xss.length := by omega
    obtain ⟨h0, hr⟩ := hp2 k h
    rw [getD_at h] at h0
    rw [getD_at h, List.getD_eq_getElem?_getD, List.getElem?_eq_getElem hk] at hr
    simp only [Option.getD_some] at hr
    have hg : xss[k].2[l[k].toNat]? = some (ent xss k l[k]) := ent_get hk (by omega)
    have e : awTo xss l (k + 1) = IntKind.i64.wrap (awTo xss l k + ent xss k l[k]) := by rw [awTo, getD_at h, if_pos h0]
    simp (config := {contextual := true}) [List.range, List.range.loop, ints, intss, int, bool, row, frac, fracs, ← List.map_take, ← List.map_drop, h, hw, Nat.le_of_lt h, hk, hg, e, h0]
  · intro _
    simp (config := {contextual := true}) [List.range, List.range.loop, ints, intss, int, bool, row, frac, fracs, ← List.map_take, ← List.map_drop]

theorem orders_all : ∀ n, n ≤ 5 → FnOk Tryd.prog 91 (mOrd n)
  | 0, _ => orders_zero
  | n + 1, h => orders_succ (by omega) (orders_all n (by omega))

/-- The rankings that begin with l and have r more places, in the reference's order. -/
def l03L (m : Nat) : Nat → List Int → List (Bool × List Int)
  | 0, l => [(false, l)]
  | r + 1, l => (List.range m).flatMap fun (i : Nat) => if pos l (i : Int) < 0 then l03L m r (l ++ [(i : Int)]) else []
def l03To (m r : Nat) (l : List Int) (k : Nat) : List (Bool × List Int) := (List.range k).flatMap fun (i : Nat) => if pos l (i : Int) < 0 then l03L m r (l ++ [(i : Int)]) else []
theorem l03To_succ {m r : Nat} {l : List Int} {k : Nat} : l03To m r l (k + 1) = l03To m r l k ++ (if pos l (k : Int) < 0 then l03L m r (l ++ [(k : Int)]) else []) := by
  unfold l03To; rw [List.range_succ, List.flatMap_append]; simp
theorem l03To_all {m r : Nat} {l : List Int} : l03To m r l m = l03L m (r + 1) l := rfl
theorem l03To_le {m r : Nat} {l : List Int} : ∀ {k j : Nat}, k ≤ j → (l03To m r l k).length ≤ (l03To m r l j).length
  | k, 0, h => by rw [Nat.le_zero.1 h]; exact Nat.le_refl _
  | k, j + 1, h => by
    rcases Nat.lt_or_ge k (j + 1) with h' | h'
    · have := l03To_le (m := m) (r := r) (l := l) (show k ≤ j by omega)
      rw [l03To_succ, List.length_append]; omega
    · rw [show k = j + 1 by omega]; exact Nat.le_refl _

theorem rankings_eq : ∀ m, m ≤ 5 → 1 ≤ m → ordR m (idx m) = l03L m m []
  | 1, _, _ => by decide +kernel
  | 2, _, _ => by decide +kernel
  | 3, _, _ => by decide +kernel
  | 4, _, _ => by decide +kernel
  | 5, _, _ => by decide +kernel
  | 0, _, h => by omega
  | m + 6, h, _ => by omega

/-- What the search from the front is asked; o: the rows so far. -/
def LR (o : List (Bool × List Int)) (l : List Int) (m : Int) (r : Nat) : Prop := ((l.length + r : Nat) : Int) = m ∧ m ≤ 5 ∧ o.length + (l03L m.toNat r l).length ≤ 100000

noncomputable def mL03 (r : Nat) : List AV → Option (List Nat × AV) := mkV (fun p => LR p.1 p.2.1 p.2.2 r) (fun (p : List (Bool × List Int) × List Int × Int) => [intss false p.1, ints false p.2.1, int p.2.2]) [0, 1] (fun p => intss false (p.1 ++ l03L p.2.2.toNat r p.2.1))
theorem mL03_at (r : Nat) (o : List (Bool × List Int)) (l : List Int) (m : Int) (h : LR o l m r) : mL03 r [.sl false 1 (o.map row), .sl false 1 (l.map int), .v (.int .i64 m)] = some ([0, 1], .sl false 1 ((o ++ l03L m.toNat r l).map row)) :=
  mkV_eq (enc := fun (p : List (Bool × List Int) × List Int × Int) => [intss false p.1, ints false p.2.1, int p.2.2]) (x := (o, l, m)) (by rintro ⟨a, b, c⟩ ⟨e, f, g⟩ h; simp [intss, ints, int, map_row_inj, map_int_inj] at h; simp [h]) h

set_option maxHeartbeats 1000000 in
theorem l03All_zero : (FnMov Tryd.prog 83 (mL03 0)) := by
  refine mkV_ok fun ⟨o, l, m⟩ h => ?_
  simp only at h
  have hG : FnsOk Tryd.prog [(101, mPos)] := (.cons placeOf_ok .nil)
  refine movOk_awp (ctx_ok eqOk hG) mixed (live := [true, true, true, false, false, false, true, true, false, false, false, true, false, false, false, false, false, false, true, false, false, false, false, false, true]) (dt := []) (mv := [0,1]) Tryd.func83 rfl (by kernel_rfl) (by kernel_rfl) fun US w0 hlens => ?_
  simp only [List.map, List.getD_cons_zero, List.getD_cons_succ, internL, intern, setSl, List.set, List.length_nil, List.nil_append, List.length_map]
  clear hlens
  have hl : (l.length : Int) = m := h.1
  have hb := h.2.2
  simp only [l03L, List.length_cons, List.length_nil] at hb
  have hb2 : o.length + 1 ≤ 4611686018427387904 ∧ (o.length + 1) * 24 ≤ 140737488355328 := by omega
  simp (config := {contextual := true, maxSteps := 1000000}) [Tryd.f83, List.range, List.range.loop, ints, intss, int, bool, row, frac, fracs, ← List.map_take, ← List.map_drop, List.all, hl, l03L, hb2]
  done

set_option maxHeartbeats 2000000 in
theorem l03All_succ {r : Nat} (ih : FnMov Tryd.prog 83 (mL03 r)) : (FnMov Tryd.prog 83 (mL03 (r + 1))) := by
  refine mkV_ok fun ⟨o, l, m'⟩ h => ?_
  simp only at h
  have hG : FnsOk Tryd.prog [(101, mPos)] := (.cons placeOf_ok .nil)
  have hM : FnsMut Tryd.prog [] := .nil
  have hV : FnsMov Tryd.prog [(83, mL03 r)] := (.cons ih .nil)
  refine movOk_awp (ctxV_ok eqOk hG hM hV) mixed (live := [true, true, true, false, false, false, true, true, false, false, false, true, false, false, false, false, false, false, true, false, false, false, false, false, true]) (dt := []) (mv := [0,1]) Tryd.func83 rfl (by kernel_rfl) (by kernel_rfl) fun US w0 hlens => ?_
  simp only [List.map, List.getD_cons_zero, List.getD_cons_succ, internL, intern, setSl, List.set, List.length_nil, List.nil_append, List.length_map]
  clear hlens
  obtain ⟨m, rfl⟩ : ∃ m : Nat, m' = (m : Int) := ⟨l.length + (r + 1), h.1.symm⟩
  have hm : l.length + (r + 1) = m := by have := h.1; omega
  have hm5 : m ≤ 5 := by have := h.2.1; omega
  have hb := h.2.2
  simp only [Int.toNat_natCast] at hb
  have hl : ¬ ((l.length : Int) = (m : Int)) := by omega
  simp (config := {contextual := true, maxSteps := 1000000}) [Tryd.f83, List.range, List.range.loop, ints, intss, int, bool, row, frac, fracs, ← List.map_take, ← List.map_drop, List.all, hl]
  refine awp_loop_of (live := [true, true, true, false, false, false, true, true, false, false, false, true, false, false, false, false, false, false, true, false, false, false, false, false, true]) (ctxV_ok eqOk hG hM hV) mixed [true, true, true, false, false, false, false, true] (α := {k : Nat // k ≤ m}) (fun k => ⟨[.ref 0 [] 0 (o ++ l03To m r l k.1).length, .ref 1 [] 0 l.length, int m, .junk, .junk, .junk, .junk, int (k.1 : Int), .junk, .junk, .junk, .junk, .junk, .junk, .junk, .junk, .junk, .junk, .junk, .junk, .junk, .junk, .junk, .junk, .junk, .junk, .junk, .junk, .junk, .junk, .junk, .junk, .junk, .junk, .junk], [⟨true, .sl false 1 ((o ++ l03To m r l k.1).map row)⟩, ⟨true, .sl false 1 (l.map int)⟩]⟩) (fun k => m - k.1) ⟨0, by omega⟩ (by simp [sub, slotsLe, clean, keep, refsL, refs, once, place, renL, ren, List.replicate, int, bool, l03To, intss]) ?_
  rintro ⟨k, hk⟩
  simp only
  have hsucc := l03To_succ (m := m) (r := r) (l := l) (k := k)
  by_cases hkm : k = m
  · subst hkm
    simp (config := {contextual := true, maxSteps := 1000000}) [List.range, List.range.loop, ints, intss, int, bool, row, frac, fracs, ← List.map_take, ← List.map_drop, List.all, l03To_all]
    done
  have hkm2 : k < m := by omega
  have hw : IntKind.i64.wrap ((k : Int) + 1) = (k : Int) + 1 := by rw [wrapI (by omega) (by omega)]
  have hlb : l.length ≤ 4611686018427387904 ∧ l.length * 8 ≤ 140737488355328 := by omega
  have hlb2 : l.length + 1 ≤ 4611686018427387904 ∧ (l.length + 1) * 8 ≤ 140737488355328 := by omega
  by_cases hp : pos l (k : Int) < 0
  · rw [if_pos hp] at hsucc
    have hle := l03To_le (m := m) (r := r) (l := l) (k := k + 1) (j := m) (by omega)
    rw [l03To_all, hsucc, List.length_append] at hle
    have hcall := mL03_at r (o ++ l03To m r l k) (l ++ [(k : Int)]) m ⟨by simp; omega, by omega, by simp only [Int.toNat_natCast, List.length_append] at hb ⊢; omega⟩
    simp only [Int.toNat_natCast, List.append_assoc, ← hsucc, List.map_append, List.map_cons, List.map_nil, int] at hcall
    have htk : List.take (l.length + 1) (l.map int ++ [AV.v (.int .i64 k)]) = l.map int ++ [AV.v (.int .i64 k)] := List.take_of_length_le (by simp)
    have hto : List.take (o.length + (l03To m r l k).length) (o.map row ++ (l03To m r l k).map row) = o.map row ++ (l03To m r l k).map row := List.take_of_length_le (by simp)
    simp (config := {contextual := true, maxSteps := 1000000}) [List.range, List.range.loop, ints, intss, int, bool, row, frac, fracs, ← List.map_take, ← List.map_drop, List.all, hkm2, hw, mPos_at, hp, hlb, hlb2, htk, hto, hcall]
    exact ⟨⟨k + 1, by omega⟩, by simp [sub, slotsLe, clean, keep, refsL, refs, once, place, renL, ren, List.replicate, int, bool], by simp; omega⟩
  · rw [if_neg hp, List.append_nil] at hsucc
    simp (config := {contextual := true, maxSteps := 1000000}) [List.range, List.range.loop, ints, intss, int, bool, row, frac, fracs, ← List.map_take, ← List.map_drop, List.all, hkm2, hw, mPos_at, hp]
    exact ⟨⟨k + 1, by omega⟩, by simp [sub, slotsLe, clean, keep, refsL, refs, once, place, renL, ren, List.replicate, int, bool, hsucc], by simp; omega⟩

end Go.Proofs.YtblnpjppckfmfaaDoor.Ax
