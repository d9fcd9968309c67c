/-
  Contracts: PlaceOf, Contains, awards (both programs). No condition.
-/
import Derived.Test.YtlkgppincgpfjaaDoorCB2
namespace Go.Proofs.YtlkgppincgpfjaaDoor.Ax
open Go Go.RowKit
set_option linter.unusedSimpArgs false

/-- All numbers below n answer yes. -/
def allR (n : Nat) (f : Nat → Bool) : Bool := (List.range n).all f
theorem allR_no {n k : Nat} {f : Nat → Bool} (h : k < n) (hf : f k = false) : allR n f = false := by
  unfold allR; rw [List.all_eq_false]; exact ⟨k, by simpa using h, by simp [hf]⟩
/-- All numbers below k answer yes. -/
def upto (f : Nat → Bool) (k : Nat) : Prop := ∀ j, j < k → f j = true
theorem upto_zero {f : Nat → Bool} : upto f 0 := fun _ h => by omega
theorem upto_succ {k : Nat} {f : Nat → Bool} (h : upto f k) (hk : f k = true) : upto f (k + 1) := fun j hj => by
  by_cases e : j = k
  · subst e; exact hk
  · exact h j (by omega)
theorem allR_yes {n : Nat} {f : Nat → Bool} (h : upto f n) : allR n f = true := by
  unfold allR; rw [List.all_eq_true]; intro x hx; exact h x (by simpa using hx)
theorem allR_and {n : Nat} {f g : Nat → Bool} : allR n (fun i => f i && g i) = (allR n f && allR n g) := by
  unfold allR
  rw [Bool.eq_iff_iff]; simp [List.all_eq_true]
  exact ⟨fun h => ⟨fun x hx => (h x hx).1, fun x hx => (h x hx).2⟩, fun h x hx => ⟨h.1 x hx, h.2 x hx⟩⟩
theorem getD_at {xs : List Int} {k : Nat} (h : k < xs.length) : xs.getD k 0 = xs[k] := by simp [List.getD_eq_getElem?_getD, h]
theorem all_allR {xs : List Int} {p : Int → Bool} : xs.all p = allR xs.length fun i => p (xs.getD i 0) := by
  unfold allR
  rw [Bool.eq_iff_iff]; simp only [List.all_eq_true, List.mem_range]
  constructor
  · intro h i hi; rw [getD_at hi]; exact h _ (List.getElem_mem _)
  · intro h x hx
    obtain ⟨i, hi, rfl⟩ := List.getElem_of_mem hx
    have := h i hi; rwa [getD_at hi] at this

set_option maxHeartbeats 1000000 in
theorem placeOf_ok : FnOk Tryd.prog 110 mPos := by
  refine mk_ok fun ⟨nl, xs, v⟩ _ => ?_
  have hG : FnsOk Tryd.prog [] := .nil
  refine callOk_awp (ctx_ok eqOk hG) mixed (live := [true, true, false, false, true, true, true, true, true, true, true, false, false, false, false, false, true]) (dt := []) Tryd.func110 rfl (by kernel_rfl) (by kernel_rfl) fun w0 hlens => ?_
  simp only [lensL, lens, ints, int, List.length_map] at hlens
  generalize hr : pos xs v = r
  simp [Tryd.f110, List.range, List.range.loop, ints, intss, int, bool, row, frac, fracs, ← List.map_take, ← List.map_drop]
  refine awp_range (live := [true, true, false, false, true, true, true, true, true, true, true, false, false, false, false, false, true]) (ctx_ok eqOk hG) mixed [false, true, false, false, false, false, false, true, true, true] (xs.length) (fun k => posFrom v (xs.drop k) k = r) (fun k => ⟨[.junk, int v, .junk, .junk, .junk, .junk, .junk, ints nl xs, int xs.length, int k, .junk, .junk, .junk, .junk, .junk, .junk, .junk, .junk, .junk], []⟩) ?_ (by simp [sub, slotsLe, clean, keep, refsL, refs, once, place, renL, ren, List.replicate, int, bool, ints]) ?_ ?_ ?_
  · exact hlens.1.1.1
  · simpa [pos] using hr
  · intro k h hp hw
    rw [drop_get h, posFrom] at hp
    by_cases e : xs[k] = v
    · rw [if_pos e] at hp; subst hp
      simp [List.range, List.range.loop, ints, intss, int, bool, row, frac, fracs, ← List.map_take, ← List.map_drop, h, e]
    · rw [if_neg e] at hp
      simp [List.range, List.range.loop, ints, intss, int, bool, row, frac, fracs, ← List.map_take, ← List.map_drop, h, hw, hp, e]
  · intro hp
    simp [posFrom] at hp; subst hp
    simp [List.range, List.range.loop, ints, intss, int, bool, row, frac, fracs, ← List.map_take, ← List.map_drop]

noncomputable def mHas : List AV → Option AV := mk (fun _ => True) (fun (p : (Bool) × (List Int) × (Int)) => [ints p.1 p.2.1, int p.2.2]) (fun p => bool (decide (0 ≤ pos p.2.1 p.2.2)))
theorem mHas_at (nl : Bool) (xs : List Int) (v : Int) : mHas [.sl nl 1 (xs.map int), .v (.int .i64 v)] = some (.v (.bool (decide (0 ≤ pos xs v)))) :=
  mk_eq (enc := fun (p : (Bool) × (List Int) × (Int)) => [ints p.1 p.2.1, int p.2.2]) (x := (nl, xs, v)) (by rintro ⟨a0, a1, a2⟩ ⟨b0, b1, b2⟩ h; simp [ints, intss, int, bool, row, frac, fracs, map_int_inj, map_row_inj, frac_inj, map_frac_inj] at h; simp [h]) trivial

theorem slicesContains_ok : FnOk Tryd.prog 82 mHas := by
  refine mk_ok fun ⟨nl, xs, v⟩ _ => ?_
  have hG : FnsOk Tryd.prog [(115, mPos)] := (.cons slicesIndex_ok .nil)
  refine callOk_awp (ctx_ok eqOk hG) mixed (live := [true, true, false, false, true]) (dt := []) Tryd.func82 rfl (by kernel_rfl) (by kernel_rfl) fun w0 hlens => ?_
  simp [Tryd.f82, List.range, List.range.loop, ints, intss, int, bool, row, frac, fracs, ← List.map_take, ← List.map_drop, mPos_at, ge_zero]

theorem mWithin_in {n lo hi : Int} : mWithin [.v (.int .i64 n), .v (.int .i64 lo), .v (.int .i64 hi)] = some (.v (.bool (inR lo hi n))) := rfl

/-- All numbers of a list are in a range. -/
def allIn (lo hi : Int) (xs : List Int) : Bool := xs.all (inR lo hi)
theorem mAllIn_in {nl : Bool} {xs : List Int} {lo hi : Int} : mAllIn [.sl nl 1 (xs.map int), .v (.int .i64 lo), .v (.int .i64 hi)] = some (.v (.bool (allIn lo hi xs))) := mAllIn_at nl xs lo hi
theorem allIn_eq {lo hi : Int} {xs : List Int} : allIn lo hi xs = allR xs.length fun i => inR lo hi (xs.getD i 0) := all_allR
theorem allIn_mem {lo hi : Int} {xs : List Int} (h : allIn lo hi xs = true) {x : Int} (hx : x ∈ xs) : lo ≤ x ∧ x ≤ hi := by
  have := List.all_eq_true.1 h x hx
  simpa [inR] using this
theorem allIn_at {lo hi : Int} {xs : List Int} (h : allIn lo hi xs = true) {i : Nat} (hi' : i < xs.length) : lo ≤ xs[i] ∧ xs[i] ≤ hi := allIn_mem h (List.getElem_mem hi')

/-- No number of at least 0 twice. -/
def awAt (xs : List Int) (i : Nat) : Bool := !(decide (0 ≤ xs.getD i 0) && decide (0 ≤ pos (xs.take i) (xs.getD i 0)))
def isAwd (xs : List Int) : Bool := allR xs.length (awAt xs)

noncomputable def mIsAwd : List AV → Option AV := mk (fun _ => True) (fun (p : (Bool) × (List Int)) => [ints p.1 p.2]) (fun p => bool (isAwd p.2))
theorem mIsAwd_at (nl : Bool) (xs : List Int) : mIsAwd [.sl nl 1 (xs.map int)] = some (.v (.bool (isAwd xs))) :=
  mk_eq (enc := fun (p : (Bool) × (List Int)) => [ints p.1 p.2]) (x := (nl, xs)) (by rintro ⟨a0, a1⟩ ⟨b0, b1⟩ h; simp [ints, intss, int, bool, row, frac, fracs, map_int_inj, map_row_inj, frac_inj, map_frac_inj] at h; simp [h]) trivial

set_option maxHeartbeats 1000000 in
theorem isAward_ok : FnOk Tryd.prog 119 mIsAwd := by
  refine mk_ok fun ⟨nl, xs⟩ _ => ?_
  have hG : FnsOk Tryd.prog [(82, mHas)] := (.cons slicesContains_ok .nil)
  refine callOk_awp (ctx_ok eqOk hG) mixed (live := [true, false, true, true, true, true, true, true, true, false, false, false, false, false, false, false, false, false, false, false, true]) (dt := []) Tryd.func119 rfl (by kernel_rfl) (by kernel_rfl) fun w0 hlens => ?_
  simp only [lensL, lens, ints, int, List.length_map] at hlens
  generalize hr : isAwd xs = r
  simp (config := {contextual := true}) [Tryd.f119, List.range, List.range.loop, ints, intss, int, bool, row, frac, fracs, ← List.map_take, ← List.map_drop, mHas_at]
  refine awp_range (live := [true, false, true, true, true, true, true, true, true, false, false, false, false, false, false, false, false, false, false, false, true]) (ctx_ok eqOk hG) mixed [true, false, false, false, false, true, true, true] (xs.length) (fun k => upto (awAt xs) k) (fun k => ⟨[ints nl xs, .junk, .junk, .junk, .junk, ints nl xs, int xs.length, int k, .junk, .junk, .junk, .junk, .junk, .junk, .junk, .junk, .junk, .junk, .junk, .junk, .junk, .junk], []⟩) ?_ (by simp [sub, slotsLe, clean, keep, refsL, refs, once, place, renL, ren, List.replicate, int, bool, ints]) ?_ ?_ ?_
  · exact hlens.1.1.1
  · exact upto_zero
  · intro k h hp hw
    have hf : awAt xs k = false → r = false := fun hf => by rw [← hr]; exact allR_no h hf
    have ht := upto_succ hp
    clear hp
    have e : awAt xs k = !(decide (0 ≤ xs[k]) && decide (0 ≤ pos (xs.take k) xs[k])) := by unfold awAt; rw [getD_at h]
    rw [e] at hf ht
    simp at hf ht
    simp (config := {contextual := true}) [List.range, List.range.loop, ints, intss, int, bool, row, frac, fracs, ← List.map_take, ← List.map_drop, mHas_at, h, hw, Nat.le_of_lt h]
    grind
  · intro hp
    have := allR_yes hp
    rw [← hr]
    simp [List.range, List.range.loop, ints, intss, int, bool, row, frac, fracs, ← List.map_take, ← List.map_drop, isAwd, this]

end Go.Proofs.YtlkgppincgpfjaaDoor.Ax

/-
  Contracts: AwardOk, AwardWorth (both programs). No condition.
-/
namespace Go.Proofs.YtlkgppincgpfjaaDoor.Ax
open Go Go.RowKit
set_option linter.unusedSimpArgs false

/-- Number i of a list, or 0. -/
def at0 (xs : List Int) (i : Nat) : Int := xs.getD i 0
theorem at0_get {xs : List Int} {i : Nat} (h : i < xs.length) : xs[i]? = some (at0 xs i) := by unfold at0; simp [List.getD_eq_getElem?_getD, h]
theorem at0_eq {xs : List Int} {i : Nat} (h : i < xs.length) : at0 xs i = xs[i] := getD_at h

/-- How wide the table is. -/
def wid (xss : List (Bool × List Int)) : Nat := (xss.headD (true, [])).2.length
theorem wid_eq {xss : List (Bool × List Int)} (h : 0 < xss.length) : xss[0].2.length = wid xss := by
  cases xss with
  | nil => simp at h
  | cons x l => rfl
theorem rect_pos {xss : List (Bool × List Int)} {a b c : Int} (h : rectB xss a b c = true) : 0 < xss.length := by
  cases xss with
  | nil => simp [rectB] at h
  | cons x l => simp
theorem rect_len {xss : List (Bool × List Int)} {a b c : Int} (h : rectB xss a b c = true) : (xss.length : Int) ≤ a ∧ (wid xss : Int) ≤ b ∧ 1 ≤ wid xss := by
  cases xss with
  | nil => simp [rectB] at h
  | cons x l => simp [rectB, inR, wid] at h ⊢; omega
theorem rect_row {xss : List (Bool × List Int)} {a b c : Int} (h : rectB xss a b c = true) {i : Nat} (hi : i < xss.length) : xss[i].2.length = wid xss ∧ ∀ x ∈ xss[i].2, 0 ≤ x ∧ x ≤ c := by
  cases xss with
  | nil => simp at hi
  | cons r l =>
    simp only [rectB, Bool.and_eq_true, List.all_eq_true] at h
    have := h.2 _ (List.getElem_mem hi)
    simp only [rowIs, Bool.and_eq_true, decide_eq_true_eq, List.all_eq_true, inR] at this
    exact this

/-- Entry k of row i. -/
def ent (xss : List (Bool × List Int)) (i : Nat) (k : Int) : Int := (xss.getD i (true, [])).2.getD k.toNat 0
theorem ent_at {xss : List (Bool × List Int)} {i : Nat} (hi : i < xss.length) {k : Nat} (hk : k < xss[i].2.length) : ent xss i k = xss[i].2[k] := by
  unfold ent; simp [List.getD_eq_getElem?_getD, hi, hk]
theorem ent_bd {xss : List (Bool × List Int)} {a b c : Int} (h : rectB xss a b c = true) {i : Nat} (hi : i < xss.length) {k : Nat} (hk : k < wid xss) : 0 ≤ ent xss i k ∧ ent xss i k ≤ c := by
  have := rect_row h hi
  rw [ent_at hi (by omega)]
  exact this.2 _ (List.getElem_mem _)

def awardB (xss : List (Bool × List Int)) (aw : List Int) : Bool := rectB xss 4 4 1000 && decide (aw.length = xss.length) && allIn (-1) (wid xss - 1) aw && isAwd aw

def awOkAt (xss : List (Bool × List Int)) (aw : List Int) (i : Nat) : Bool := inR (-1) (wid xss - 1) (aw.getD i 0) && awAt aw i
theorem awOkAt_def {xss : List (Bool × List Int)} {aw : List Int} : awOkAt xss aw = fun i => inR (-1) (wid xss - 1) (aw.getD i 0) && awAt aw i := rfl

noncomputable def mAwardOk : List AV → Option AV := mk (fun _ => True) (fun (p : (Bool) × (List (Bool × List Int)) × (Bool) × (List Int)) => [intss p.1 p.2.1, ints p.2.2.1 p.2.2.2]) (fun p => bool (awardB p.2.1 p.2.2.2))
theorem mAwardOk_at (nl : Bool) (xss : List (Bool × List Int)) (nl' : Bool) (aw : List Int) : mAwardOk [.sl nl 1 (xss.map row), .sl nl' 1 (aw.map int)] = some (.v (.bool (awardB xss aw))) :=
  mk_eq (enc := fun (p : (Bool) × (List (Bool × List Int)) × (Bool) × (List Int)) => [intss p.1 p.2.1, ints p.2.2.1 p.2.2.2]) (x := (nl, xss, nl', aw)) (by rintro ⟨a0, a1, a2, a3⟩ ⟨b0, b1, b2, b3⟩ h; simp [ints, intss, int, bool, row, frac, fracs, map_int_inj, map_row_inj, frac_inj, map_frac_inj] at h; simp [h]) trivial

end Go.Proofs.YtlkgppincgpfjaaDoor.Ax

/-
  Contracts of the functions on lists of lists of fracs. No condition.
-/
namespace Go.Proofs.YtlkgppincgpfjaaDoor.Ax
open Go Go.RowKit
set_option linter.unusedSimpArgs false

/-- A frow: is it nil, its numbers. -/
def frow (p : Bool × List (Int × Int)) : AV := .sl p.1 2 (p.2.map frac)
def fracss (nl : Bool) (xss : List (Bool × List (Int × Int))) : AV := .sl nl 1 (xss.map frow)
theorem frow_inj {p q : Bool × List (Int × Int)} : frow p = frow q ↔ p = q := by
  obtain ⟨a, b⟩ := p; obtain ⟨c, d⟩ := q
  simp [frow, map_frac_inj]
theorem map_frow_inj {a b : List (Bool × List (Int × Int))} : a.map frow = b.map frow ↔ a = b :=
  ⟨fun h => (List.map_inj_right (fun x y => frow_inj.1)).1 h, fun h => by rw [h]⟩

theorem lens_frow {r : Bool × List (Int × Int)} : lens (.sl r.1 2 (r.2.map frac)) ↔ r.2.length ≤ 9223372036854775807 ∧ (r.1 = true → r.2 = []) := lens_fracs
theorem lens_fracss {nl : Bool} {xss : List (Bool × List (Int × Int))} : lens (.sl nl 1 (xss.map frow)) ↔ (xss.length ≤ 9223372036854775807 ∧ (nl = true → xss = [])) ∧ ∀ x ∈ xss, x.2.length ≤ 9223372036854775807 ∧ (x.1 = true → x.2 = []) := by
  simp only [lens, lensL_map, frow, List.length_map, List.map_eq_nil_iff, lens_fracs]

/-- How many numbers the first k rows hold. -/
def rowSumF (xss : List (Bool × List (Int × Int))) (k : Nat) : Nat := ((xss.take k).map (·.2.length)).sum
theorem rowSumF_zero {xss : List (Bool × List (Int × Int))} : rowSumF xss 0 = 0 := by simp [rowSumF]
theorem rowSumF_succ {xss : List (Bool × List (Int × Int))} {k : Nat} (h : k < xss.length) : rowSumF xss (k + 1) = rowSumF xss k + xss[k].2.length := by
  unfold rowSumF; rw [List.take_succ_eq_append_getElem h]; simp only [List.map_append, List.sum_append, List.map_cons, List.map_nil, List.sum_cons, List.sum_nil, Nat.add_zero]
theorem rowSumF_mono {xss : List (Bool × List (Int × Int))} {k n : Nat} (h : k ≤ n) : rowSumF xss k ≤ rowSumF xss n := by
  induction n with
  | zero => obtain rfl : k = 0 := by omega
            exact Nat.le_refl _
  | succ n ih =>
    by_cases e : k = n + 1
    · rw [e]; exact Nat.le_refl _
    · refine Nat.le_trans (ih (by omega)) ?_
      by_cases hn : n < xss.length
      · rw [rowSumF_succ hn]; omega
      · simp only [rowSumF]; rw [List.take_of_length_le (by omega), List.take_of_length_le (by omega)]; exact Nat.le_refl _
def needF (xss : List (Bool × List (Int × Int))) : Nat := xss.length + rowSumF xss xss.length

noncomputable def mSzFss : List AV → Option AV := mk (fun p => p.2.1.length < 2 ^ 63 ∧ (∀ x ∈ p.2.1, x.2.length < 2 ^ 63) ∧ 0 ≤ p.2.2 ∧ p.2.2 ≤ 2 ^ 62) (fun (p : Bool × List (Bool × List (Int × Int)) × Int) => [fracss p.1 p.2.1, int p.2.2]) (fun p => int (if p.2.2 < needF p.2.1 then -1 else p.2.2 - needF p.2.1))
theorem mSzFss_at (nl : Bool) (xss : List (Bool × List (Int × Int))) (l : Int) (h : xss.length < 2 ^ 63) (h' : ∀ x ∈ xss, x.2.length < 2 ^ 63) (h1 : 0 ≤ l) (h2 : l ≤ 2 ^ 62) : mSzFss [.sl nl 1 (xss.map frow), .v (.int .i64 l)] = some (.v (.int .i64 (if l < needF xss then -1 else l - needF xss))) :=
  mk_eq (enc := fun (p : Bool × List (Bool × List (Int × Int)) × Int) => [fracss p.1 p.2.1, int p.2.2]) (x := (nl, xss, l)) (by rintro ⟨x, x', x''⟩ ⟨y, y', y''⟩ h; simp [fracss, int_inj, map_frow_inj] at h; simp [h]) ⟨h, h', h1, h2⟩

set_option maxHeartbeats 1000000 in
theorem szFractionSS_ok : FnOk Tryd.prog 24 mSzFss := by
  refine mk_ok fun ⟨nl, xss, l⟩ ⟨h1, h1', h2, h3⟩ => ?_
  simp only at h1 h1' h2 h3
  have hG : FnsOk Tryd.prog [(19, mSzF)] := .cons szFractionS_ok .nil
  refine callOk_of_awp (ctx_ok eqOk hG) mixed (live := [true, true, false, false, true, true, false, false, false, false, false, true, false, false, false, true, false, false, false, false, false, false, false, false, false, true]) (dt := []) Tryd.func24 rfl (by kernel_rfl) (by kernel_rfl) fun w0 => ?_
  have hw : IntKind.i64.wrap (l - xss.length) = l - xss.length := wrapI (by omega) (by omega)
  by_cases h : l < xss.length
  · have h' : l - xss.length < 0 := by omega
    have hn : l < needF xss := by simp only [needF]; omega
    simp [Tryd.f24, List.range, List.range.loop, fracss, int, hw, hn, h']
  · have h' : ¬ l - xss.length < 0 := by omega
    simp [Tryd.f24, List.range, List.range.loop, fracss, int, hw, h, h']
    refine awp_loop_of (ctx_ok eqOk hG) mixed (live := [true, true, false, false, true, true, false, false, false, false, false, true, false, false, false, true, false, false, false, false, false, false, false, false, false, true]) [true, true, false, false, true, true] (α := {k : Nat // k ≤ xss.length ∧ (xss.length : Int) + rowSumF xss k ≤ l})
      (fun k => ⟨[fracss nl xss, int (l - xss.length - rowSumF xss k.1), .junk, .junk, int 0, int k.1] ++ List.replicate 21 .junk, []⟩) (fun k => xss.length - k.1) ⟨0, by omega, by rw [rowSumF_zero]; omega⟩
      (by simp [sub, slotsLe, clean, keep, refsL, refs, once, place, renL, ren, List.replicate, int, bool, fracss, rowSumF_zero]) ?_
    rintro ⟨k, hk, hl⟩
    by_cases hkn : k < xss.length
    · have hx := h1' xss[k] (List.getElem_mem _)
      have hs := rowSumF_succ hkn
      have hz := mSzF_at xss[k].1 xss[k].2 (l - xss.length - rowSumF xss k) hx (by omega) (by omega)
      by_cases hc : l - xss.length - rowSumF xss k < xss[k].2.length
      · simp [hc] at hz
        have hn : l < needF xss := by
          have := rowSumF_mono (xss := xss) (show k + 1 ≤ xss.length from hkn)
          simp only [needF]; omega
        simp [List.range, List.range.loop, fracss, frow, int, List.replicate, hkn, hz, hn]
      · simp [hc] at hz
        have hc' : ¬ l - xss.length - rowSumF xss k - xss[k].2.length < 0 := by omega
        simp [List.range, List.range.loop, fracss, frow, int, List.replicate, hkn, hz, hc']
        refine ⟨⟨k + 1, hkn, by omega⟩, ?_, by simp; omega⟩
        simp [sub, slotsLe, clean, keep, refsL, refs, once, place, renL, ren, List.replicate, int, bool, fracss, hs]
        exact ⟨by omega, wrapI (by omega) (by omega)⟩
    · have hk' : k = xss.length := by omega
      subst hk'
      have hn : ¬ l < needF xss := by simp only [needF]; omega
      simp [List.range, List.range.loop, fracss, int, hkn, List.replicate, hn]
      simp only [needF]; omega

/-- A frow of the call's ownF. -/
def ofrow (p : Bool × List (Int × Int)) : AV := .sl false 2 (p.2.map frac)
def ownF (xss : List (Bool × List (Int × Int))) : List (Bool × List (Int × Int)) := xss.map fun p => (false, p.2)
theorem ownF_len {xss : List (Bool × List (Int × Int))} : (ownF xss).length = xss.length := by simp [ownF]
theorem map_ofrow {xss : List (Bool × List (Int × Int))} : xss.map ofrow = (ownF xss).map frow := by simp [ownF, ofrow, frow]
def smallF (xss : List (Bool × List (Int × Int))) : Prop := xss.length ≤ 2 ^ 40 ∧ ∀ x ∈ xss, x.2.length ≤ 2 ^ 40

noncomputable def mToFss : List AV → Option AV := mk (fun p => smallF p.2) (fun (p : Bool × List (Bool × List (Int × Int))) => [fracss p.1 p.2]) (fun p => fracss false (ownF p.2))
theorem mToFss_at (nl : Bool) (xss : List (Bool × List (Int × Int))) (h : smallF xss) : mToFss [.sl nl 1 (xss.map frow)] = some (.sl false 1 ((ownF xss).map frow)) :=
  mk_eq (enc := fun (p : Bool × List (Bool × List (Int × Int))) => [fracss p.1 p.2]) (x := (nl, xss)) (by rintro ⟨x, x'⟩ ⟨y, y'⟩ h; simp [fracss, map_frow_inj] at h; simp [h]) h

set_option maxHeartbeats 1000000 in
theorem toFractionSS_ok : FnOk Tryd.prog 26 mToFss := by
  refine mk_ok fun ⟨nl, xss⟩ ⟨hpre, hpr⟩ => ?_
  simp only at hpre hpr
  have hG : FnsOk Tryd.prog [(21, mToFs)] := .cons toFractionS_ok .nil
  refine callOk_of_awp (ctx_ok eqOk hG) mixed (live := [true, false, true, true, true, false, false, false, false, false, false, true]) (dt := []) Tryd.func26 rfl (by kernel_rfl) (by kernel_rfl) fun w0 => ?_
  have hb : 24 * xss.length ≤ 281474976710656 := by omega
  have hn : xss.length ≤ 4611686018427387904 := by omega
  simp [Tryd.f26, List.range, List.range.loop, fracss, hb, hn]
  refine awp_loop_of (ctx_ok eqOk hG) mixed (live := [true, false, true, true, true, false, false, false, false, false, false, true]) [true, false, true, true, true] (α := {k : Nat // k ≤ xss.length})
    (fun k => ⟨[fracss nl xss, .junk, .sl true 1 [], .ref 0 [] 0 xss.length, int k.1] ++ List.replicate 18 .junk, [⟨true, .sl false 1 (filled ofrow (.sl true 1 []) xss k.1)⟩]⟩) (fun k => xss.length - k.1) ⟨0, by omega⟩
    (by simp [sub, slotsLe, clean, keep, refsL, refs, once, place, renL, ren, List.replicate, int, bool, fracss, filled_zero]) ?_
  rintro ⟨k, hk⟩
  by_cases h : k < xss.length
  · have hl := filled_len (f := ofrow) (z := AV.sl true 1 []) hk
    have hg := filled_get (f := ofrow) (z := AV.sl true 1 []) h
    have hg' := filled_get' (f := ofrow) (z := AV.sl true 1 []) h
    have hz := mToFs_at xss[k].1 xss[k].2 (hpr _ (List.getElem_mem _))
    simp [List.range, List.range.loop, fracss, frow, int, h, List.replicate, hl, hg, hg', hz]
    refine ⟨⟨k + 1, h⟩, ?_, by simp; omega⟩
    have hset := filled_set (f := ofrow) (z := AV.sl true 1 []) h
    simp only [ofrow] at hset
    simp [sub, slotsLe, clean, keep, refsL, refs, once, place, renL, ren, List.replicate, int, bool, fracss, hset, hl]
    exact wrapI (by omega) (by omega)
  · have hk' : k = xss.length := by omega
    subst hk'
    simp [List.range, List.range.loop, fracss, int, h, List.replicate, filled_all, map_ofrow, ownF_len]

theorem take_eq_numsF {xss yss : List (Bool × List (Int × Int))} {k : Nat} (h1 : k < xss.length) (h2 : k < yss.length) : (xss.take (k + 1)).map (·.2) = (yss.take (k + 1)).map (·.2) ↔ (xss.take k).map (·.2) = (yss.take k).map (·.2) ∧ xss[k].2 = yss[k].2 := by
  rw [List.take_succ_eq_append_getElem h1, List.take_succ_eq_append_getElem h2, List.map_append, List.map_append]
  constructor
  · intro h
    have := List.append_inj h (by simp; omega)
    simpa using this
  · rintro ⟨h, h'⟩; rw [h]; simp [h']

noncomputable def mEqFss : List AV → Option AV := mk (fun p => smallF p.1.2 ∧ smallF p.2.2) (fun (p : (Bool × List (Bool × List (Int × Int))) × (Bool × List (Bool × List (Int × Int)))) => [fracss p.1.1 p.1.2, fracss p.2.1 p.2.2]) (fun p => bool (decide (p.1.2.map (·.2) = p.2.2.map (·.2))))
theorem mEqFss_at (nl nl' : Bool) (xs ys : List (Bool × List (Int × Int))) (h : smallF xs) (h' : smallF ys) : mEqFss [.sl nl 1 (xs.map frow), .sl nl' 1 (ys.map frow)] = some (.v (.bool (decide (xs.map (·.2) = ys.map (·.2))))) :=
  mk_eq (enc := fun (p : (Bool × List (Bool × List (Int × Int))) × (Bool × List (Bool × List (Int × Int)))) => [fracss p.1.1 p.1.2, fracss p.2.1 p.2.2]) (x := ((nl, xs), (nl', ys))) (by rintro ⟨⟨x, x'⟩, ⟨x'', x3⟩⟩ ⟨⟨y, y'⟩, ⟨y'', y3⟩⟩ h; simp [fracss, map_frow_inj] at h; simp [h]) ⟨h, h'⟩

set_option maxHeartbeats 1000000 in
theorem eqFractionSS_ok : FnOk Tryd.prog 28 mEqFss := by
  refine mk_ok fun ⟨⟨nl, xs⟩, ⟨nl', ys⟩⟩ ⟨⟨hp, hpr⟩, ⟨hp', hpr'⟩⟩ => ?_
  simp only at hp hp' hpr hpr'
  have hG : FnsOk Tryd.prog [(23, mEqFs)] := .cons eqFractionS_ok .nil
  refine callOk_of_awp (ctx_ok eqOk hG) mixed (live := [true, true, false, false, true, true, false, false, false, false, true, false, false, false, true, false, false, false, false, false, false, false, false, false, false, false, true]) (dt := [(6, ⟨[], [], []⟩)]) Tryd.func28 rfl (by kernel_rfl) (by kernel_rfl) fun w0 => ?_
  by_cases hl : xs.length = ys.length
  · simp [Tryd.f28, List.range, List.range.loop, fracss, hl]
    refine awp_loop_of (ctx_ok eqOk hG) mixed (live := [true, true, false, false, true, true, false, false, false, false, true, false, false, false, true, false, false, false, false, false, false, false, false, false, false, false, true]) [true, true, false, false, true, true] (α := {k : Nat // k ≤ ys.length ∧ (xs.take k).map (·.2) = (ys.take k).map (·.2)})
      (fun k => ⟨[fracss nl xs, fracss nl' ys, .junk, .junk, bool false, int k.1] ++ List.replicate 21 .junk, []⟩) (fun k => ys.length - k.1) ⟨0, by omega, by simp⟩
      (by simp [sub, slotsLe, clean, keep, refsL, refs, once, place, renL, ren, List.replicate, int, bool, fracss]) ?_
    rintro ⟨k, hk, he⟩
    by_cases h : k < ys.length
    · have h' : k < xs.length := by omega
      have hz := mEqFs_at xs[k].1 ys[k].1 xs[k].2 ys[k].2 (hpr _ (List.getElem_mem _)) (hpr' _ (List.getElem_mem _))
      by_cases hx : xs[k].2 = ys[k].2
      · simp [hx] at hz
        simp [List.range, List.range.loop, fracss, frow, int, bool, h, h', hl, List.replicate, hx, hz]
        refine ⟨⟨k + 1, h, (take_eq_numsF h' h).2 ⟨he, hx⟩⟩, ?_, by simp; omega⟩
        simp [sub, slotsLe, clean, keep, refsL, refs, once, place, renL, ren, List.replicate, int, bool, fracss]
        exact wrapI (by omega) (by omega)
      · have hx' : ¬ xs.map (·.2) = ys.map (·.2) := fun e => hx (by
          have e2 := congrArg (fun l => l[k]?) e
          simpa [h, h'] using e2)
        simp [hx] at hz
        simp [List.range, List.range.loop, fracss, frow, int, bool, h, h', hl, List.replicate, hz, hx']
    · have hk' : k = ys.length := by omega
      subst hk'
      simp [List.range, List.range.loop, fracss, int, bool, h, hl, List.replicate]
      rw [List.take_of_length_le (by omega), List.take_of_length_le (by omega)] at he
      exact he
  · have hl' : ((xs.length : Int) != ys.length) = true := by simp; omega
    have hx' : ¬ xs.map (·.2) = ys.map (·.2) := fun e => hl (by have := congrArg List.length e; simpa using this)
    simp [Tryd.f28, List.range, List.range.loop, fracss, hl, hl', bool, hx']

theorem needF_small {xss : List (Bool × List (Int × Int))} (h : needF xss ≤ 1048576) : smallF xss := by
  simp only [needF] at h
  refine ⟨by omega, fun x hx => ?_⟩
  obtain ⟨i, hi, rfl⟩ := List.getElem_of_mem hx
  have h1 := rowSumF_succ hi
  have h2 := rowSumF_mono (xss := xss) (show i + 1 ≤ xss.length from hi)
  omega
theorem ownF_small {xss : List (Bool × List (Int × Int))} (h : smallF xss) : smallF (ownF xss) := by
  refine ⟨by rw [ownF_len]; exact h.1, fun x hx => ?_⟩
  simp only [ownF, List.mem_map] at hx
  obtain ⟨y, hy, rfl⟩ := hx
  exact h.2 y hy


end Go.Proofs.YtlkgppincgpfjaaDoor.Ax

/-
  What this seat's laws are handed: lists of lists of fractions. No condition.
-/
namespace Go.Proofs.YtlkgppincgpfjaaDoor.Ax
open Go Go.RowKit

theorem datLFracss {a : AV} (h : DatE Tryd.prog 37 a) : ∃ nl xss, a = fracss nl xss ∧ xss.length ≤ maxLen ∧ ∀ x ∈ xss, x.2.length ≤ maxLen ∧ ∀ n ∈ x.2, (Lit.int .i64 n.1).wf = true ∧ (Lit.int .i64 n.2).wf = true := by
  obtain ⟨nl, es, rfl, hl, hes⟩ := h.slice Tryd.underlying37
  obtain ⟨xs, rfl, hx⟩ := list_of (f := frow) (Q := fun x => x.2.length ≤ maxLen ∧ ∀ n ∈ x.2, (Lit.int .i64 n.1).wf = true ∧ (Lit.int .i64 n.2).wf = true) (fun x hx => by
    obtain ⟨nl, xs, rfl, h1, h2⟩ := datLFracs (hes x hx)
    exact ⟨(nl, xs), rfl, h1, h2⟩)
  exact ⟨nl, xs, by rw [show Tryd.prog.cellsOf 30 = 1 from by kernel_rfl]; rfl, by simpa using hl, hx⟩

end Go.Proofs.YtlkgppincgpfjaaDoor.Ax
