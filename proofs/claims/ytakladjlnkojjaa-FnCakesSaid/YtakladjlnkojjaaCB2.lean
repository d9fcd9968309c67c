/-
  Contracts: where a number stands in a list (both programs, the library). No condition.
-/
import Derived.Test.YtakladjlnkojjaaCB1
import Derived.Test.YtakladjlnkojjaaCK4
namespace Go.Proofs.Ytakladjlnkojjaa.Ax
open Go Go.RowKit
set_option linter.unusedSimpArgs false

/-- The place of v among xs from place i on (k: the place of the head), or -1. -/
def posFrom (v : Int) : List Int → Nat → Int
  | [], _ => -1
  | x :: xs, k => if x = v then k else posFrom v xs (k + 1)
def pos (xs : List Int) (v : Int) : Int := posFrom v xs 0

theorem drop_get {α : Type} {xs : List α} {k : Nat} (h : k < xs.length) : xs.drop k = xs[k] :: xs.drop (k + 1) := List.drop_eq_getElem_cons h

noncomputable def mPos : List AV → Option AV := mk (fun _ => True) (fun (p : (Bool) × (List Int) × (Int)) => [ints p.1 p.2.1, int p.2.2]) (fun p => int (pos p.2.1 p.2.2))
theorem mPos_at (nl : Bool) (xs : List Int) (v : Int) : mPos [.sl nl 1 (xs.map int), .v (.int .i64 v)] = some (.v (.int .i64 (pos xs v))) :=
  mk_eq (enc := fun (p : (Bool) × (List Int) × (Int)) => [ints p.1 p.2.1, int p.2.2]) (x := (nl, xs, v)) (by rintro ⟨a0, a1, a2⟩ ⟨b0, b1, b2⟩ h; simp [ints, intss, int, bool, row, frac, fracs, map_int_inj, map_row_inj, frac_inj, map_frac_inj] at h; simp [h]) trivial

set_option maxHeartbeats 1000000 in
theorem slicesIndex_ok : FnOk Try.prog 86 mPos := by
  refine mk_ok fun ⟨nl, xs, v⟩ _ => ?_
  have hG : FnsOk Try.prog [] := .nil
  refine callOk_awp (ctx_ok eqOk hG) mixed (live := [true, true, false, false, true, true, false, true, true, true, false, false, false, false, false, false, true]) (dt := []) Try.func86 rfl (by kernel_rfl) (by kernel_rfl) fun w0 hlens => ?_
  simp only [lensL, lens, ints, int, List.length_map] at hlens
  generalize hr : pos xs v = r
  simp [Try.f86, List.range, List.range.loop, ints, intss, int, bool, row, frac, fracs, ← List.map_take, ← List.map_drop, ints]
  refine awp_range (live := [true, true, false, false, true, true, false, true, true, true, false, false, false, false, false, false, true]) (ctx_ok eqOk hG) mixed [true, true, false, false, false, false, false, true, true] (xs.length) (fun k => posFrom v (xs.drop k) k = r) (fun k => ⟨[ints nl xs, int v, .junk, .junk, .junk, .junk, .junk, int xs.length, int k, .junk, .junk, .junk, .junk, .junk, .junk, .junk, .junk, .junk, .junk], []⟩) ?_ (by simp [sub, slotsLe, clean, keep, refsL, refs, once, place, renL, ren, List.replicate, int, bool, ints]) ?_ ?_ ?_
  · exact hlens.1.1.1
  · simpa [pos] using hr
  · intro k h hp hw
    rw [drop_get h, posFrom] at hp
    by_cases e : xs[k] = v
    · rw [if_pos e] at hp; subst hp
      simp [List.range, List.range.loop, ints, intss, int, bool, row, frac, fracs, ← List.map_take, ← List.map_drop, h, e]
    · rw [if_neg e] at hp
      have e' : ¬ v = xs[k] := fun h => e h.symm
      simp [List.range, List.range.loop, ints, intss, int, bool, row, frac, fracs, ← List.map_take, ← List.map_drop, h, hw, hp, e']
  · intro hp
    simp [posFrom] at hp; subst hp
    simp [List.range, List.range.loop, ints, intss, int, bool, row, frac, fracs, ← List.map_take, ← List.map_drop]

end Go.Proofs.Ytakladjlnkojjaa.Ax

/-
  Contracts: PlaceOf, Contains, awards (both programs). No condition.
-/
namespace Go.Proofs.Ytakladjlnkojjaa.Ax
open Go Go.RowKit
set_option linter.unusedSimpArgs false

/-- All numbers below n answer yes. -/
def allR (n : Nat) (f : Nat → Bool) : Bool := (List.range n).all f
theorem allR_no {n k : Nat} {f : Nat → Bool} (h : k < n) (hf : f k = false) : allR n f = false := by
  unfold allR; rw [List.all_eq_false]; exact ⟨k, by simpa using h, by simp [hf]⟩
/-- All numbers below k answer yes. -/
def upto (f : Nat → Bool) (k : Nat) : Prop := ∀ j, j < k → f j = true
theorem upto_zero {f : Nat → Bool} : upto f 0 := fun _ h => by omega
theorem upto_succ {k : Nat} {f : Nat → Bool} (h : upto f k) (hk : f k = true) : upto f (k + 1) := fun j hj => by
  by_cases e : j = k
  · subst e; exact hk
  · exact h j (by omega)
theorem allR_yes {n : Nat} {f : Nat → Bool} (h : upto f n) : allR n f = true := by
  unfold allR; rw [List.all_eq_true]; intro x hx; exact h x (by simpa using hx)
theorem allR_and {n : Nat} {f g : Nat → Bool} : allR n (fun i => f i && g i) = (allR n f && allR n g) := by
  unfold allR
  rw [Bool.eq_iff_iff]; simp [List.all_eq_true]
  exact ⟨fun h => ⟨fun x hx => (h x hx).1, fun x hx => (h x hx).2⟩, fun h x hx => ⟨h.1 x hx, h.2 x hx⟩⟩
theorem getD_at {xs : List Int} {k : Nat} (h : k < xs.length) : xs.getD k 0 = xs[k] := by simp [List.getD_eq_getElem?_getD, h]
theorem all_allR {xs : List Int} {p : Int → Bool} : xs.all p = allR xs.length fun i => p (xs.getD i 0) := by
  unfold allR
  rw [Bool.eq_iff_iff]; simp only [List.all_eq_true, List.mem_range]
  constructor
  · intro h i hi; rw [getD_at hi]; exact h _ (List.getElem_mem _)
  · intro h x hx
    obtain ⟨i, hi, rfl⟩ := List.getElem_of_mem hx
    have := h i hi; rwa [getD_at hi] at this

set_option maxHeartbeats 1000000 in
theorem placeOf_ok : FnOk Try.prog 46 mPos := by
  refine mk_ok fun ⟨nl, xs, v⟩ _ => ?_
  have hG : FnsOk Try.prog [] := .nil
  refine callOk_awp (ctx_ok eqOk hG) mixed (live := [true, true, false, false, true, true, true, true, true, true, true, false, false, false, false, false, true]) (dt := []) Try.func46 rfl (by kernel_rfl) (by kernel_rfl) fun w0 hlens => ?_
  simp only [lensL, lens, ints, int, List.length_map] at hlens
  generalize hr : pos xs v = r
  simp [Try.f46, List.range, List.range.loop, ints, intss, int, bool, row, frac, fracs, ← List.map_take, ← List.map_drop]
  refine awp_range (live := [true, true, false, false, true, true, true, true, true, true, true, false, false, false, false, false, true]) (ctx_ok eqOk hG) mixed [false, true, false, false, false, false, false, true, true, true] (xs.length) (fun k => posFrom v (xs.drop k) k = r) (fun k => ⟨[.junk, int v, .junk, .junk, .junk, .junk, .junk, ints nl xs, int xs.length, int k, .junk, .junk, .junk, .junk, .junk, .junk, .junk, .junk, .junk], []⟩) ?_ (by simp [sub, slotsLe, clean, keep, refsL, refs, once, place, renL, ren, List.replicate, int, bool, ints]) ?_ ?_ ?_
  · exact hlens.1.1.1
  · simpa [pos] using hr
  · intro k h hp hw
    rw [drop_get h, posFrom] at hp
    by_cases e : xs[k] = v
    · rw [if_pos e] at hp; subst hp
      simp [List.range, List.range.loop, ints, intss, int, bool, row, frac, fracs, ← List.map_take, ← List.map_drop, h, e]
    · rw [if_neg e] at hp
      simp [List.range, List.range.loop, ints, intss, int, bool, row, frac, fracs, ← List.map_take, ← List.map_drop, h, hw, hp, e]
  · intro hp
    simp [posFrom] at hp; subst hp
    simp [List.range, List.range.loop, ints, intss, int, bool, row, frac, fracs, ← List.map_take, ← List.map_drop]

noncomputable def mHas : List AV → Option AV := mk (fun _ => True) (fun (p : (Bool) × (List Int) × (Int)) => [ints p.1 p.2.1, int p.2.2]) (fun p => bool (decide (0 ≤ pos p.2.1 p.2.2)))
theorem mHas_at (nl : Bool) (xs : List Int) (v : Int) : mHas [.sl nl 1 (xs.map int), .v (.int .i64 v)] = some (.v (.bool (decide (0 ≤ pos xs v)))) :=
  mk_eq (enc := fun (p : (Bool) × (List Int) × (Int)) => [ints p.1 p.2.1, int p.2.2]) (x := (nl, xs, v)) (by rintro ⟨a0, a1, a2⟩ ⟨b0, b1, b2⟩ h; simp [ints, intss, int, bool, row, frac, fracs, map_int_inj, map_row_inj, frac_inj, map_frac_inj] at h; simp [h]) trivial

theorem slicesContains_ok : FnOk Try.prog 49 mHas := by
  refine mk_ok fun ⟨nl, xs, v⟩ _ => ?_
  have hG : FnsOk Try.prog [(86, mPos)] := (.cons slicesIndex_ok .nil)
  refine callOk_awp (ctx_ok eqOk hG) mixed (live := [true, true, false, false, true]) (dt := []) Try.func49 rfl (by kernel_rfl) (by kernel_rfl) fun w0 hlens => ?_
  simp [Try.f49, List.range, List.range.loop, ints, intss, int, bool, row, frac, fracs, ← List.map_take, ← List.map_drop, mPos_at, ge_zero]

theorem mWithin_in {n lo hi : Int} : mWithin [.v (.int .i64 n), .v (.int .i64 lo), .v (.int .i64 hi)] = some (.v (.bool (inR lo hi n))) := rfl

/-- All numbers of a list are in a range. -/
def allIn (lo hi : Int) (xs : List Int) : Bool := xs.all (inR lo hi)
theorem mAllIn_in {nl : Bool} {xs : List Int} {lo hi : Int} : mAllIn [.sl nl 1 (xs.map int), .v (.int .i64 lo), .v (.int .i64 hi)] = some (.v (.bool (allIn lo hi xs))) := mAllIn_at nl xs lo hi
theorem allIn_eq {lo hi : Int} {xs : List Int} : allIn lo hi xs = allR xs.length fun i => inR lo hi (xs.getD i 0) := all_allR
theorem allIn_mem {lo hi : Int} {xs : List Int} (h : allIn lo hi xs = true) {x : Int} (hx : x ∈ xs) : lo ≤ x ∧ x ≤ hi := by
  have := List.all_eq_true.1 h x hx
  simpa [inR] using this
theorem allIn_at {lo hi : Int} {xs : List Int} (h : allIn lo hi xs = true) {i : Nat} (hi' : i < xs.length) : lo ≤ xs[i] ∧ xs[i] ≤ hi := allIn_mem h (List.getElem_mem hi')

/-- No number of at least 0 twice. -/
def awAt (xs : List Int) (i : Nat) : Bool := !(decide (0 ≤ xs.getD i 0) && decide (0 ≤ pos (xs.take i) (xs.getD i 0)))
def isAwd (xs : List Int) : Bool := allR xs.length (awAt xs)

noncomputable def mIsAwd : List AV → Option AV := mk (fun _ => True) (fun (p : (Bool) × (List Int)) => [ints p.1 p.2]) (fun p => bool (isAwd p.2))
theorem mIsAwd_at (nl : Bool) (xs : List Int) : mIsAwd [.sl nl 1 (xs.map int)] = some (.v (.bool (isAwd xs))) :=
  mk_eq (enc := fun (p : (Bool) × (List Int)) => [ints p.1 p.2]) (x := (nl, xs)) (by rintro ⟨a0, a1⟩ ⟨b0, b1⟩ h; simp [ints, intss, int, bool, row, frac, fracs, map_int_inj, map_row_inj, frac_inj, map_frac_inj] at h; simp [h]) trivial

set_option maxHeartbeats 1000000 in
theorem isAward_ok : FnOk Try.prog 48 mIsAwd := by
  refine mk_ok fun ⟨nl, xs⟩ _ => ?_
  have hG : FnsOk Try.prog [(49, mHas)] := (.cons slicesContains_ok .nil)
  refine callOk_awp (ctx_ok eqOk hG) mixed (live := [true, false, true, true, true, true, true, true, true, false, false, false, false, false, false, false, false, false, false, false, true]) (dt := []) Try.func48 rfl (by kernel_rfl) (by kernel_rfl) fun w0 hlens => ?_
  simp only [lensL, lens, ints, int, List.length_map] at hlens
  generalize hr : isAwd xs = r
  simp (config := {contextual := true}) [Try.f48, List.range, List.range.loop, ints, intss, int, bool, row, frac, fracs, ← List.map_take, ← List.map_drop, mHas_at]
  refine awp_range (live := [true, false, true, true, true, true, true, true, true, false, false, false, false, false, false, false, false, false, false, false, true]) (ctx_ok eqOk hG) mixed [true, false, false, false, false, true, true, true] (xs.length) (fun k => upto (awAt xs) k) (fun k => ⟨[ints nl xs, .junk, .junk, .junk, .junk, ints nl xs, int xs.length, int k, .junk, .junk, .junk, .junk, .junk, .junk, .junk, .junk, .junk, .junk, .junk, .junk, .junk, .junk], []⟩) ?_ (by simp [sub, slotsLe, clean, keep, refsL, refs, once, place, renL, ren, List.replicate, int, bool, ints]) ?_ ?_ ?_
  · exact hlens.1.1.1
  · exact upto_zero
  · intro k h hp hw
    have hf : awAt xs k = false → r = false := fun hf => by rw [← hr]; exact allR_no h hf
    have ht := upto_succ hp
    clear hp
    have e : awAt xs k = !(decide (0 ≤ xs[k]) && decide (0 ≤ pos (xs.take k) xs[k])) := by unfold awAt; rw [getD_at h]
    rw [e] at hf ht
    simp at hf ht
    simp (config := {contextual := true}) [List.range, List.range.loop, ints, intss, int, bool, row, frac, fracs, ← List.map_take, ← List.map_drop, mHas_at, h, hw, Nat.le_of_lt h]
    grind
  · intro hp
    have := allR_yes hp
    rw [← hr]
    simp [List.range, List.range.loop, ints, intss, int, bool, row, frac, fracs, ← List.map_take, ← List.map_drop, isAwd, this]

end Go.Proofs.Ytakladjlnkojjaa.Ax

/-
  Contracts: AwardOk, AwardWorth (both programs). No condition.
-/
namespace Go.Proofs.Ytakladjlnkojjaa.Ax
open Go Go.RowKit
set_option linter.unusedSimpArgs false

/-- Number i of a list, or 0. -/
def at0 (xs : List Int) (i : Nat) : Int := xs.getD i 0
theorem at0_get {xs : List Int} {i : Nat} (h : i < xs.length) : xs[i]? = some (at0 xs i) := by unfold at0; simp [List.getD_eq_getElem?_getD, h]
theorem at0_eq {xs : List Int} {i : Nat} (h : i < xs.length) : at0 xs i = xs[i] := getD_at h

/-- How wide the table is. -/
def wid (xss : List (Bool × List Int)) : Nat := (xss.headD (true, [])).2.length
theorem wid_eq {xss : List (Bool × List Int)} (h : 0 < xss.length) : xss[0].2.length = wid xss := by
  cases xss with
  | nil => simp at h
  | cons x l => rfl
theorem rect_pos {xss : List (Bool × List Int)} {a b c : Int} (h : rectB xss a b c = true) : 0 < xss.length := by
  cases xss with
  | nil => simp [rectB] at h
  | cons x l => simp
theorem rect_len {xss : List (Bool × List Int)} {a b c : Int} (h : rectB xss a b c = true) : (xss.length : Int) ≤ a ∧ (wid xss : Int) ≤ b ∧ 1 ≤ wid xss := by
  cases xss with
  | nil => simp [rectB] at h
  | cons x l => simp [rectB, inR, wid] at h ⊢; omega
theorem rect_row {xss : List (Bool × List Int)} {a b c : Int} (h : rectB xss a b c = true) {i : Nat} (hi : i < xss.length) : xss[i].2.length = wid xss ∧ ∀ x ∈ xss[i].2, 0 ≤ x ∧ x ≤ c := by
  cases xss with
  | nil => simp at hi
  | cons r l =>
    simp only [rectB, Bool.and_eq_true, List.all_eq_true] at h
    have := h.2 _ (List.getElem_mem hi)
    simp only [rowIs, Bool.and_eq_true, decide_eq_true_eq, List.all_eq_true, inR] at this
    exact this

/-- Entry k of row i. -/
def ent (xss : List (Bool × List Int)) (i : Nat) (k : Int) : Int := (xss.getD i (true, [])).2.getD k.toNat 0
theorem ent_at {xss : List (Bool × List Int)} {i : Nat} (hi : i < xss.length) {k : Nat} (hk : k < xss[i].2.length) : ent xss i k = xss[i].2[k] := by
  unfold ent; simp [List.getD_eq_getElem?_getD, hi, hk]
theorem ent_bd {xss : List (Bool × List Int)} {a b c : Int} (h : rectB xss a b c = true) {i : Nat} (hi : i < xss.length) {k : Nat} (hk : k < wid xss) : 0 ≤ ent xss i k ∧ ent xss i k ≤ c := by
  have := rect_row h hi
  rw [ent_at hi (by omega)]
  exact this.2 _ (List.getElem_mem _)

def awardB (xss : List (Bool × List Int)) (aw : List Int) : Bool := rectB xss 4 4 1000 && decide (aw.length = xss.length) && allIn (-1) (wid xss - 1) aw && isAwd aw

def awOkAt (xss : List (Bool × List Int)) (aw : List Int) (i : Nat) : Bool := inR (-1) (wid xss - 1) (aw.getD i 0) && awAt aw i
theorem awOkAt_def {xss : List (Bool × List Int)} {aw : List Int} : awOkAt xss aw = fun i => inR (-1) (wid xss - 1) (aw.getD i 0) && awAt aw i := rfl

noncomputable def mAwardOk : List AV → Option AV := mk (fun _ => True) (fun (p : (Bool) × (List (Bool × List Int)) × (Bool) × (List Int)) => [intss p.1 p.2.1, ints p.2.2.1 p.2.2.2]) (fun p => bool (awardB p.2.1 p.2.2.2))
theorem mAwardOk_at (nl : Bool) (xss : List (Bool × List Int)) (nl' : Bool) (aw : List Int) : mAwardOk [.sl nl 1 (xss.map row), .sl nl' 1 (aw.map int)] = some (.v (.bool (awardB xss aw))) :=
  mk_eq (enc := fun (p : (Bool) × (List (Bool × List Int)) × (Bool) × (List Int)) => [intss p.1 p.2.1, ints p.2.2.1 p.2.2.2]) (x := (nl, xss, nl', aw)) (by rintro ⟨a0, a1, a2, a3⟩ ⟨b0, b1, b2, b3⟩ h; simp [ints, intss, int, bool, row, frac, fracs, map_int_inj, map_row_inj, frac_inj, map_frac_inj] at h; simp [h]) trivial

set_option maxHeartbeats 1000000 in
theorem implAwardOk_ok : FnOk Try.prog 12 mAwardOk := by
  refine mk_ok fun ⟨nl, xss, nl', aw⟩ _ => ?_
  have hG : FnsOk Try.prog [(41, (mGrid 4 4 1000)), (47, mAllIn), (48, mIsAwd)] := (.cons implBidsOk_ok (.cons allWithin_ok (.cons isAward_ok .nil)))
  refine callOk_awp (ctx_ok eqOk hG) mixed (live := [true, true, false, false, true, false, false, false, false, false, false, false, false, false, false, false, false, false, false, false, false, false, false, false, true]) (dt := []) Try.func12 rfl (by kernel_rfl) (by kernel_rfl) fun w0 hlens => ?_
  cases h1 : rectB xss 4 4 1000 with
  | false => simp (config := {contextual := true}) [Try.f12, List.range, List.range.loop, ints, intss, int, bool, row, frac, fracs, ← List.map_take, ← List.map_drop, mGrid_at, mAllIn_in, mIsAwd_at, h1, awardB]
  | true =>
    have h0 := rect_pos h1
    have hw := wid_eq h0
    have hl := rect_len h1
    have hs : IntKind.i64.wrap ((wid xss : Int) - 1) = (wid xss : Int) - 1 := wrapI (by omega) (by omega)
    by_cases h2 : aw.length = xss.length
    · simp (config := {contextual := true}) [List.range, List.range.loop, ints, intss, int, bool, row, frac, fracs, ← List.map_take, ← List.map_drop, mGrid_at, mAllIn_in, mIsAwd_at, h1, awardB, h2, h0, hw, hs]

    · have h2' : ((aw.length : Int) != xss.length) = true := by simp; omega
      simp [Try.f12, List.range, List.range.loop, ints, intss, int, bool, row, frac, fracs, ← List.map_take, ← List.map_drop, mGrid_at, mAllIn_at, mIsAwd_at, h1, awardB, h2, h2', h0, hw, hs]

set_option maxHeartbeats 1000000 in
theorem specAwardOk_ok : FnOk Try.prog 11 mAwardOk := by
  refine mk_ok fun ⟨nl, xss, nl', aw⟩ _ => ?_
  have hG : FnsOk Try.prog [(44, (mGrid 4 4 1000)), (45, mWithin), (46, mPos)] := (.cons specBidsOk_ok (.cons l01In_ok (.cons placeOf_ok .nil)))
  refine callOk_awp (ctx_ok eqOk hG) mixed (live := [true, true, false, false, true, true, true, false, false, false, false, false, false, false, false, false, true, true, true, true, true, false, false, false, false, false, false, false, false, false, false, false, false, false, false, false, false, false, false, false, false, false, false, true]) (dt := []) Try.func11 rfl (by kernel_rfl) (by kernel_rfl) fun w0 hlens => ?_
  cases h1 : rectB xss 4 4 1000 with
  | false => simp (config := {contextual := true}) [Try.f11, List.range, List.range.loop, ints, intss, int, bool, row, frac, fracs, ← List.map_take, ← List.map_drop, mGrid_at, mWithin_in, mPos_at, h1, awardB]
  | true =>
    have h0 := rect_pos h1
    have hw := wid_eq h0
    have hl := rect_len h1
    have hs : IntKind.i64.wrap ((wid xss : Int) - 1) = (wid xss : Int) - 1 := wrapI (by omega) (by omega)
    by_cases h2 : aw.length = xss.length
    · have hm : awardB xss aw = allR aw.length (awOkAt xss aw) := by simp only [awardB, h1, h2, isAwd, allIn_eq]; simp [← h2, awOkAt_def, allR_and]
      generalize hr : awardB xss aw = r at hm
      simp [Try.f11, List.range, List.range.loop, ints, intss, int, bool, row, frac, fracs, ← List.map_take, ← List.map_drop, mGrid_at, h1, h2]
      refine awp_range (live := [true, true, false, false, true, true, true, false, false, false, false, false, false, false, false, false, true, true, true, true, true, false, false, false, false, false, false, false, false, false, false, false, false, false, false, false, false, false, false, false, false, false, false, true]) (ctx_ok eqOk hG) mixed [true, true, false, false, false, false, false, false, false, false, false, false, false, false, false, false, false, true, true, true] (aw.length) (fun k => upto (awOkAt xss aw) k) (fun k => ⟨[intss nl xss, ints nl' aw, .junk, .junk, .junk, .junk, .junk, .junk, .junk, .junk, .junk, .junk, .junk, .junk, .junk, .junk, .junk, ints nl' aw, int aw.length, int k, .junk, .junk, .junk, .junk, .junk, .junk, .junk, .junk, .junk, .junk, .junk, .junk, .junk, .junk, .junk, .junk, .junk, .junk, .junk, .junk, .junk, .junk, .junk, .junk, .junk], []⟩) ?_ (by simp [sub, slotsLe, clean, keep, refsL, refs, once, place, renL, ren, List.replicate, int, bool, h2, intss, ints]) ?_ ?_ ?_
      · have := (lens_ints.1 hlens.2.1).1; simpa using this
      · exact upto_zero
      · intro k h hp hwk
        have hf : awOkAt xss aw k = false → r = false := fun hf => by rw [hm]; exact allR_no h hf
        have ht := upto_succ hp
        have e : awOkAt xss aw k = (inR (-1) (wid xss - 1) aw[k] && !(decide (0 ≤ aw[k]) && decide (0 ≤ pos (aw.take k) aw[k]))) := by unfold awOkAt awAt; rw [getD_at h]
        rw [e] at hf ht
        simp at hf ht
        simp (config := {contextual := true}) [List.range, List.range.loop, ints, intss, int, bool, row, frac, fracs, ← List.map_take, ← List.map_drop, mWithin_in, mPos_at, h, hwk, Nat.le_of_lt h, h0, hw, hs, ge_zero]
        clear hp hm hr hlens hG e
        grind
      · intro hp
        have := allR_yes hp
        rw [hm, this]
        simp (config := {contextual := true}) [List.range, List.range.loop, ints, intss, int, bool, row, frac, fracs, ← List.map_take, ← List.map_drop, mGrid_at, mWithin_in, mPos_at]
    · have h2' : ((aw.length : Int) != xss.length) = true := by simp; omega
      simp [Try.f11, List.range, List.range.loop, ints, intss, int, bool, row, frac, fracs, ← List.map_take, ← List.map_drop, mGrid_at, mAllIn_at, mIsAwd_at, h1, awardB, h2, h2', h0, hw, hs]

end Go.Proofs.Ytakladjlnkojjaa.Ax

/-
  Contracts of the two PointsOk. No condition.
-/
namespace Go.Proofs.Ytakladjlnkojjaa.Ax
open Go Go.RowKit
set_option linter.unusedSimpArgs false

/-- A row of n numbers from 0 to 100 that come to 100. -/
def rowP (n : Nat) (r : Bool × List Int) : Bool := rowIs n 100 r && decide (sumW r.2 = 100)
def pointsB (xss : List (Bool × List Int)) : Bool := match xss with
  | [a, b] => inR 1 6 a.2.length && (rowP a.2.length a && rowP a.2.length b)
  | _ => false
theorem pointsB_eq {xss : List (Bool × List Int)} (h : xss.length = 2) : pointsB xss = (inR 1 6 (xss[0]'(by omega)).2.length && xss.all (rowP (xss[0]'(by omega)).2.length)) := by
  match xss, h with
  | [a, b], _ => simp [pointsB]
theorem pointsB_ne {xss : List (Bool × List Int)} (h : ¬ xss.length = 2) : pointsB xss = false := by
  match xss, h with
  | [], _ => rfl
  | [a], _ => rfl
  | [a, b], h => simp at h
  | a :: b :: c :: l, _ => rfl
theorem pointsB_rect {xss : List (Bool × List Int)} (h : xss.length = 2) : pointsB xss = (rectB xss 2 6 100 && (decide (sumW (xss[0]'(by omega)).2 = 100) && decide (sumW (xss[1]'(by omega)).2 = 100))) := by
  match xss, h with
  | [a, b], _ =>
    simp only [pointsB, rectB, rowP, List.all_cons, List.all_nil, List.getElem_cons_zero, List.getElem_cons_succ, List.length_cons, List.length_nil]
    rw [show inR 1 2 ((0 + 1 + 1 : Nat) : Int) = true from rfl]
    generalize inR 1 6 _ = p
    generalize rowIs _ _ a = q
    generalize rowIs _ _ b = r
    generalize decide (sumW a.2 = 100) = s
    generalize decide (sumW b.2 = 100) = t
    cases p <;> cases q <;> cases r <;> cases s <;> cases t <;> rfl

noncomputable def mPoints : List AV → Option AV := mk (fun _ => True) (fun (p : Bool × List (Bool × List Int)) => [intss p.1 p.2]) (fun p => bool (pointsB p.2))
theorem mPoints_at (nl : Bool) (xs : List (Bool × List Int)) : mPoints [.sl nl 1 (xs.map row)] = some (.v (.bool (pointsB xs))) :=
  mk_eq (enc := fun (p : Bool × List (Bool × List Int)) => [intss p.1 p.2]) (x := (nl, xs)) (by rintro ⟨x, x'⟩ ⟨y, y'⟩ h; simp [intss, map_row_inj] at h; simp [h]) trivial

set_option maxHeartbeats 1000000 in
theorem implPointsOk_ok : FnOk Try.prog 23 mPoints := by
  refine mk_ok fun ⟨nl, xss⟩ _ => ?_
  have hG : FnsOk Try.prog [(62, mRect), (63, mSum)] := .cons rectangle_ok (.cons sumOf_ok .nil)
  refine callOk_of_awp (ctx_ok eqOk hG) mixed (live := [true, false, true, false, false, false, false, false, false, false, true]) (dt := []) Try.func23 rfl (by kernel_rfl) (by kernel_rfl) fun w0 => ?_
  have hm := mRect_at nl xss 2 6 100
  by_cases hl : xss.length = 2
  · have he := pointsB_rect hl
    have s0 := mSum_at xss[0].1 xss[0].2
    have s1 := mSum_at xss[1].1 xss[1].2
    have l0 : 0 < xss.length := by omega
    have l1 : 1 < xss.length := by omega
    cases hr : rectB xss 2 6 100 with
    | false =>
      rw [hr] at hm he
      simp only [Bool.false_and] at he
      simp [Try.f23, List.range, List.range.loop, intss, int, bool, hm, he]
    | true =>
      rw [hr] at hm he
      simp only [Bool.true_and] at he
      by_cases h0 : sumW xss[0].2 = 100
      · simp [h0] at he
        simp [Try.f23, List.range, List.range.loop, intss, row, int, bool, hm, he, hl, s0, s1, h0, l0, l1]
        rfl
      · simp [h0] at he
        have h0' : (sumW xss[0].2 == 100) = false := by simpa using h0
        simp [Try.f23, List.range, List.range.loop, intss, row, int, bool, hm, he, hl, s0, s1, h0, h0', l0, l1]
  · have hn := pointsB_ne hl
    have hl' : ((xss.length : Int) != 2) = true := by simp; omega
    cases hr : rectB xss 2 6 100 with
    | false =>
      rw [hr] at hm
      simp [Try.f23, List.range, List.range.loop, intss, int, bool, hm, hn]
    | true =>
      rw [hr] at hm
      simp [Try.f23, List.range, List.range.loop, intss, int, bool, hm, hn, hl, hl']

end Go.Proofs.Ytakladjlnkojjaa.Ax

/-
  Contracts of the library's searches over a list by a function. No condition.
-/
namespace Go.Proofs.Ytakladjlnkojjaa.Ax
open Go Go.RowKit
set_option linter.unusedSimpArgs false

theorem lens_fracs {nl : Bool} {xs : List (Int × Int)} : lens (.sl nl 2 (xs.map frac)) ↔ xs.length ≤ 9223372036854775807 ∧ (nl = true → xs = []) := by
  simp [lens, lensL_map, lensL, frac]

set_option maxHeartbeats 1000000 in
theorem indexFracs {g : FuncId} {caps : List AV} (hc : Pure caps) (p : Int × Int → Bool) (nl : Bool) (xs : List (Int × Int)) (hg : ∀ x ∈ xs, CallOk Try.prog g (frac x :: caps) (.v (.bool (p x)))) :
    CallOk Try.prog 91 [fracs nl xs, .fn g caps] (int (idxOf p xs)) := by
  have hG : FnsOk Try.prog [(g, mk (fun x => x ∈ xs) (fun x : Int × Int => frac x :: caps) (fun x => .v (.bool (p x))))] := .cons (mk_ok fun x hx => hg x hx) .nil
  have hat : ∀ k (h : k < xs.length), mk (fun x => x ∈ xs) (fun x : Int × Int => (frac x : AV) :: caps) (fun x => AV.v (.bool (p x))) (frac xs[k] :: caps) = some (.v (.bool (p xs[k]))) := fun k h =>
    mk_eq (enc := fun x : Int × Int => (frac x : AV) :: caps) (x := xs[k]) (by intro x y h; simp [frac_inj] at h; simp [h]) (List.getElem_mem h)
  generalize hm : mk (fun x => x ∈ xs) (fun x : Int × Int => (frac x : AV) :: caps) (fun x => AV.v (.bool (p x))) = m at hG hat
  try simp only [fracs, frac] at hat
  refine callOk_awp (ctx_ok eqOk hG) mixed (live := [true, true, false, false, true, true, false, true, true, true, false, false, false, false, false, false, true]) (dt := []) Try.func91 rfl (by kernel_rfl) (by kernel_rfl) fun w0 hlens => ?_
  have hlen : xs.length ≤ 9223372036854775807 := (lens_fracs.1 hlens.1).1
  simp [Try.f91, List.range, List.range.loop, fracs, frac, hc.res, hc.refs, hc.ren]
  refine awp_loop_of (ctx_ok eqOk hG) mixed (live := [true, true, false, false, true, true, false, true, true, true, false, false, false, false, false, false, true]) [true, true, false, false, false, false, false, true, true] (α := {k : Nat // k ≤ xs.length ∧ ∀ j (hj : j < xs.length), j < k → p xs[j] = false})
    (fun k => ⟨[fracs nl xs, .fn g caps, .junk, .junk, .junk, .junk, .junk, int xs.length, int k.1] ++ List.replicate 10 .junk, []⟩) (fun k => xs.length - k.1) ⟨0, by omega, by omega⟩
    (by simp [sub, slotsLe, clean, keep, refsL, refs, once, place, renL, ren, List.replicate, int, bool, fracs, frac, hc.refs, hc.ren]) ?_
  rintro ⟨k, hk, hno⟩
  by_cases h : k < xs.length
  · have hz := hat k h
    cases hp : p xs[k] with
    | true =>
      rw [hp] at hz
      simp [List.range, List.range.loop, fracs, frac, int, h, List.replicate, hc.res, hc.refs, hc.ren, hz, idxOf_found h hno hp]
    | false =>
      rw [hp] at hz
      simp [List.range, List.range.loop, fracs, frac, int, h, List.replicate, hc.res, hc.refs, hc.ren, hz]
      refine ⟨⟨k + 1, h, fun j hj hjk => ?_⟩, ?_, by simp; omega⟩
      · by_cases e : j = k
        · subst e; exact hp
        · exact hno j hj (by omega)
      simp [sub, slotsLe, clean, keep, refsL, refs, once, place, renL, ren, List.replicate, int, bool, fracs, frac, hc.refs, hc.ren]
      exact wrapI (by omega) (by omega)
  · have hk' : k = xs.length := by omega
    subst hk'
    simp [List.range, List.range.loop, fracs, frac, int, h, List.replicate, hc.res, hc.refs, hc.ren, idxOf_none hno]

set_option maxHeartbeats 1000000 in
theorem containsFracs {g : FuncId} {caps : List AV} (hc : Pure caps) (p : Int × Int → Bool) (nl : Bool) (xs : List (Int × Int)) (hg : ∀ x ∈ xs, CallOk Try.prog g (frac x :: caps) (.v (.bool (p x)))) :
    CallOk Try.prog 64 [fracs nl xs, .fn g caps] (bool (xs.any p)) := by
  have hG : FnsOk Try.prog [(91, only [.sl nl 2 (xs.map frac), .fn g caps] (.v (.int .i64 (idxOf p xs))))] := .cons (only_ok (indexFracs hc p nl xs hg)) .nil
  refine callOk_awp (ctx_ok eqOk hG) mixed (live := [true, true, false, false, true]) (dt := []) Try.func64 rfl (by kernel_rfl) (by kernel_rfl) fun w0 hlens => ?_
  simp [Try.f64, List.range, List.range.loop, fracs, frac, bool, hc.res, hc.refs, hc.ren, ge_zero, only_at, idxOf_nonneg]

end Go.Proofs.Ytakladjlnkojjaa.Ax
