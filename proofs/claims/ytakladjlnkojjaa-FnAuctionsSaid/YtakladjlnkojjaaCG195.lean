/-
  Contract of SecondPrice (the program) and what it answers. No condition.
-/
import Derived.Test.YtakladjlnkojjaaCB1
import Derived.Test.YtakladjlnkojjaaCB2
namespace Go.Proofs.Ytakladjlnkojjaa.Ax
open Go Go.RowKit
set_option linter.unusedSimpArgs false

theorem le_mxTo {xs : List Int} : ∀ {k : Nat}, k ≤ xs.length → ∀ i (hi : i < xs.length), i < k → xs[i] ≤ mxTo xs k
  | 0, _, i, _, h => by omega
  | k + 1, hk, i, hi, h => by
    rw [mxTo_succ (by omega)]
    by_cases e : i = k
    · subst e; omega
    · have := le_mxTo (xs := xs) (k := k) (by omega) i hi (by omega); omega

theorem posOf_mem {xs : List Int} {m : Int} {k : Nat} {z : Int} (h : z ∈ posOf xs m k) : ∃ i : Nat, z = i ∧ i < k ∧ xs[i]? = some m := by
  unfold posOf at h
  simp only [List.mem_map, List.mem_filter, List.mem_range, decide_eq_true_eq] at h
  obtain ⟨i, ⟨h1, h2⟩, rfl⟩ := h
  exact ⟨i, rfl, h1, h2⟩

theorem posOf_ne {xs : List Int} : ∀ {k : Nat}, k ≤ xs.length → 0 < k → posOf xs (mxTo xs k) k ≠ []
  | 0, _, h => by omega
  | k + 1, hk, _ => by
    rw [posOf_succ (by omega)]
    by_cases e : xs[k] = mxTo xs (k + 1)
    · simp [e]
    · by_cases hk0 : k = 0
      · subst hk0
        rw [mxTo_one (by omega)] at e
        exact (e rfl).elim
      · have hm := mxTo_succ (xs := xs) (k := k) (by omega)
        have : mxTo xs (k + 1) = mxTo xs k := by omega
        rw [this]
        have := posOf_ne (xs := xs) (k := k) (by omega) (by omega)
        simp [this]

/-- The greatest of the first k bids but the one at p, and 0. -/
def secTo (xs : List Int) (p : Int) : Nat → Int
  | 0 => 0
  | k + 1 => if (k : Int) = p then secTo xs p k else max (secTo xs p k) (xs.getD k 0)
def priceOf (xs : List Int) : AV :=
  if (inR 1 8 xs.length && xs.all (inR 0 10000)) = true then .tup [.v (.int .i64 ((posOf xs (mx xs) xs.length).headD 0)), .v (.int .i64 (secTo xs ((posOf xs (mx xs) xs.length).headD 0) xs.length))] else .tup [.v (.int .i64 (-1)), .v (.int .i64 0)]

noncomputable def mSecond : List AV → Option AV := mk (fun p => p.2.length ≤ 2 ^ 40) (fun (p : Bool × List Int) => [ints p.1 p.2]) (fun p => priceOf p.2)
theorem mSecond_at (nl : Bool) (xs : List Int) (h' : xs.length ≤ 2 ^ 40) : mSecond [.sl nl 1 (xs.map int)] = some (priceOf xs) :=
  mk_eq (enc := fun (p : Bool × List Int) => [ints p.1 p.2]) (x := (nl, xs)) (by rintro ⟨x, x'⟩ ⟨y, y'⟩ h; simp [ints, map_int_inj] at h; simp [h]) h'

set_option maxHeartbeats 4000000 in
theorem implSecondPrice_ok : FnOk Try.prog 18 mSecond := by
  refine mk_ok fun ⟨nl, xs⟩ hp => ?_
  simp only at hp
  have hG : FnsOk Try.prog [(51, mWithin), (47, mAllIn), (54, mGreat)] := .cons within_ok (.cons allWithin_ok (.cons greatest_ok .nil))
  refine callOk_of_awp (ctx_ok eqOk hG) mixed (live := [true, false, true, true, true, true, true, true, false, false, false, false, false, false, false, false, true, false, false, false, false, true, true, true, true, false, false, false, false, false, true]) (dt := []) Try.func18 rfl (by kernel_rfl) (by kernel_rfl) fun w0 => ?_
  have hm := mAllIn_at nl xs 0 10000
  have hg := mGreat_at nl xs hp
  cases h1 : inR 1 8 xs.length with
  | false =>
    have hw : mWithin [.v (.int .i64 (xs.length : Int)), .v (.int .i64 1), .v (.int .i64 8)] = some (.v (.bool false)) := by rw [mWithin_at]; exact congrArg (fun b => some (AV.v (.bool b))) h1
    simp [Try.f18, List.range, List.range.loop, ints, hw, priceOf, h1, pack]
  | true =>
    have hw : mWithin [.v (.int .i64 (xs.length : Int)), .v (.int .i64 1), .v (.int .i64 8)] = some (.v (.bool true)) := by rw [mWithin_at]; exact congrArg (fun b => some (AV.v (.bool b))) h1
    cases h2 : xs.all (inR 0 10000) with
    | false =>
      rw [h2] at hm
      simp [Try.f18, List.range, List.range.loop, ints, hw, hm, priceOf, h1, h2, pack]
    | true =>
      rw [h2] at hm
      have h0 : 0 < xs.length := by simp [inR] at h1; omega
      have hpr : priceOf xs = .tup [.v (.int .i64 ((posOf xs (mx xs) xs.length).headD 0)), .v (.int .i64 (secTo xs ((posOf xs (mx xs) xs.length).headD 0) xs.length))] := by simp [priceOf, h1, h2]
      cases hl : posOf xs (mx xs) xs.length with
      | nil => exact (posOf_ne (Nat.le_refl _) h0 hl).elim
      | cons p l =>
        rw [hl] at hg hpr
        simp only [List.headD_cons] at hpr
        rw [hpr]
        simp [Try.f18, List.range, List.range.loop, ints, int, hw, hm, hg]
        refine awp_loop_of (ctx_ok eqOk hG) mixed (live := [true, false, true, true, true, true, true, true, false, false, false, false, false, false, false, false, true, false, false, false, false, true, true, true, true, false, false, false, false, false, true]) [false, false, false, false, true, true, false, false, false, false, false, false, false, false, false, false, false, false, false, false, false, true, true, true] (α := {k : Nat // k ≤ xs.length})
          (fun k => ⟨[.junk, .junk, .junk, .junk, int p, int (secTo xs p k.1), .junk, .junk, .junk, .junk, .junk, .junk, .junk, .junk, .junk, .junk, .junk, .junk, .junk, .junk, .junk, ints nl xs, int xs.length, int k.1, .junk, .junk, .junk, .junk, .junk, .junk, .junk, .junk, .junk, .junk, .junk, .junk, .junk], []⟩) (fun k => xs.length - k.1) ⟨0, by omega⟩
          (by simp [sub, slotsLe, clean, keep, refsL, refs, once, place, renL, ren, List.replicate, int, bool, ints, secTo]) ?_
        rintro ⟨k, hk⟩
        by_cases h : k < xs.length
        · have hgd : xs.getD k 0 = xs[k] := by rw [List.getD_eq_getElem?_getD, List.getElem?_eq_getElem h]; rfl
          by_cases e : (k : Int) = p
          · subst e
            simp [List.range, List.range.loop, ints, int, h]
            refine ⟨⟨k + 1, h⟩, ?_, by simp; omega⟩
            simp [sub, slotsLe, clean, keep, refsL, refs, once, place, renL, ren, List.replicate, int, bool, ints, secTo]
            exact wrapI (by omega) (by omega)
          · have e' : ((k : Int) != p) = true := by simpa using e
            simp [List.range, List.range.loop, ints, int, h, e, e']
            refine ⟨⟨k + 1, h⟩, ?_, by simp; omega⟩
            simp [sub, slotsLe, clean, keep, refsL, refs, once, place, renL, ren, List.replicate, int, bool, ints, secTo, e, hgd]
            exact ⟨by simp [h], wrapI (by omega) (by omega)⟩
        · have hk' : k = xs.length := by omega
          subst hk'
          simp [List.range, List.range.loop, ints, int, h, pack]


theorem mx_mem {xs : List Int} (h : 0 < xs.length) : ∀ {k : Nat}, 1 ≤ k → k ≤ xs.length → ∃ i, ∃ hi : i < xs.length, i < k ∧ xs[i] = mxTo xs k
  | 0, h1, _ => by omega
  | k + 1, _, hk => by
    rcases Nat.eq_zero_or_pos k with rfl | hp
    · exact ⟨0, h, by omega, (mxTo_one h).symm⟩
    · obtain ⟨i, hi, h2, h3⟩ := mx_mem h (k := k) hp (by omega)
      rw [mxTo_succ (by omega)]
      by_cases e : mxTo xs k ≤ xs[k]
      · exact ⟨k, by omega, by omega, by omega⟩
      · exact ⟨i, hi, by omega, by omega⟩

/-- The winner and the price. -/
def spP (xs : List Int) : Int := (posOf xs (mx xs) xs.length).headD 0
def spQ (xs : List Int) : Int := secTo xs (spP xs) xs.length
theorem priceOf_ok {xs : List Int} (h1 : 1 ≤ xs.length) (h8 : xs.length ≤ 8) (hx : ∀ x ∈ xs, 0 ≤ x ∧ x ≤ 10000) : priceOf xs = .tup [.v (.int .i64 (spP xs)), .v (.int .i64 (spQ xs))] := by
  have e : (inR 1 8 xs.length && xs.all (inR 0 10000)) = true := by
    simp only [Bool.and_eq_true, List.all_eq_true]
    exact ⟨by simp [inR]; omega, fun x h => by have := hx x h; simp [inR]; omega⟩
  simp only [priceOf, e, if_true]; rfl

/-- The head of the list of places is the first place. -/
theorem posOf_head {xs : List Int} {m : Int} : ∀ {k : Nat}, k ≤ xs.length → ∀ {z : Int} {l : List Int}, posOf xs m k = z :: l → ∃ p : Nat, z = p ∧ p < k ∧ (∃ hp : p < xs.length, xs[p] = m) ∧ ∀ i (hi : i < xs.length), i < p → xs[i] ≠ m
  | 0, _, z, l, h => by simp [posOf] at h
  | k + 1, hk, z, l, h => by
    rw [posOf_succ (by omega)] at h
    cases hp : posOf xs m k with
    | nil =>
      rw [hp, List.nil_append] at h
      by_cases e : xs[k] = m
      · rw [if_pos e] at h
        simp only [List.cons.injEq] at h
        refine ⟨k, h.1.symm, by omega, ⟨by omega, e⟩, fun i hi hlt e' => ?_⟩
        have : (i : Int) ∈ posOf xs m k := by
          unfold posOf
          refine List.mem_map.2 ⟨i, List.mem_filter.2 ⟨List.mem_range.2 hlt, ?_⟩, rfl⟩
          simp [List.getElem?_eq_getElem hi, e']
        rw [hp] at this; simp at this
      · rw [if_neg e] at h; simp at h
    | cons y l' =>
      obtain ⟨p, h1, h2, h3, h4⟩ := posOf_head (k := k) (by omega) hp
      rw [hp] at h
      simp only [List.cons_append, List.cons.injEq] at h
      exact ⟨p, h.1 ▸ h1, by omega, h3, h4⟩

theorem secTo_ge {xs : List Int} {p : Int} : ∀ {k : Nat}, k ≤ xs.length → 0 ≤ secTo xs p k ∧ ∀ i (hi : i < xs.length), i < k → (i : Int) ≠ p → xs[i] ≤ secTo xs p k
  | 0, _ => ⟨by simp [secTo], fun i _ h => by omega⟩
  | k + 1, hk => by
    obtain ⟨h1, h2⟩ := secTo_ge (xs := xs) (p := p) (k := k) (by omega)
    have hg : xs.getD k 0 = xs[k] := by rw [List.getD_eq_getElem?_getD, List.getElem?_eq_getElem (by omega)]; rfl
    unfold secTo
    split
    · rename_i e
      exact ⟨h1, fun i hi hlt hne => h2 i hi (by omega) hne⟩
    · rw [hg]
      refine ⟨by omega, fun i hi hlt hne => ?_⟩
      by_cases e : i = k
      · subst e; omega
      · have := h2 i hi (by omega) hne; omega
theorem secTo_le {xs : List Int} {p m : Int} (hm : 0 ≤ m) (hx : ∀ x ∈ xs, x ≤ m) : ∀ {k : Nat}, k ≤ xs.length → secTo xs p k ≤ m
  | 0, _ => by simpa [secTo] using hm
  | k + 1, hk => by
    have h1 := secTo_le (p := p) hm hx (k := k) (by omega)
    have hg : xs.getD k 0 = xs[k] := by rw [List.getD_eq_getElem?_getD, List.getElem?_eq_getElem (by omega)]; rfl
    have h2 := hx xs[k] (List.getElem_mem _)
    unfold secTo
    split
    · exact h1
    · rw [hg]; omega

theorem sp_facts {xs : List Int} (h : 0 < xs.length) (hx : ∀ x ∈ xs, 0 ≤ x) : ∃ p : Nat, spP xs = p ∧ ∃ hp : p < xs.length, (∀ i (hi : i < xs.length), xs[i] ≤ xs[p]) ∧ (∀ i (hi : i < xs.length), i < p → xs[i] < xs[p]) ∧ (∀ i (hi : i < xs.length), i ≠ p → xs[i] ≤ spQ xs) ∧ 0 ≤ spQ xs ∧ spQ xs ≤ xs[p] := by
  have hle : ∀ i (hi : i < xs.length), xs[i] ≤ mx xs := fun i hi => le_mxTo (Nat.le_refl _) i hi hi
  cases hl : posOf xs (mx xs) xs.length with
  | nil => exact (posOf_ne (Nat.le_refl _) h hl).elim
  | cons z l =>
    obtain ⟨p, rfl, h2, ⟨hp, h3⟩, h4⟩ := posOf_head (Nat.le_refl _) hl
    have hP : spP xs = p := by simp [spP, hl]
    refine ⟨p, hP, hp, fun i hi => h3 ▸ hle i hi, fun i hi hlt => ?_, fun i hi hne => ?_, (secTo_ge (Nat.le_refl _)).1, ?_⟩
    · have := hle i hi; have := h4 i hi hlt; omega
    · exact (secTo_ge (Nat.le_refl _)).2 i hi hi (by rw [hP]; omega)
    · rw [h3]
      refine secTo_le (by have := hx xs[p] (List.getElem_mem _); omega) (fun x hx' => ?_) (Nat.le_refl _)
      obtain ⟨i, hi, rfl⟩ := List.getElem_of_mem hx'
      exact hle i hi

end Go.Proofs.Ytakladjlnkojjaa.Ax
