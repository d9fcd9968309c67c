/-
  Contracts: PlaceOf, Contains, awards (both programs). No condition.
-/
import Derived.Test.YtigepnpiofcooaaGreatCB1
namespace Go.Proofs.YtigepnpiofcooaaGreat.Ax
open Go Go.RowKit
set_option linter.unusedSimpArgs false
def allR (n : Nat) (f : Nat → Bool) : Bool := (List.range n).all f
theorem allR_no {n k : Nat} {f : Nat → Bool} (h : k < n) (hf : f k = false) : allR n f = false := by
  unfold allR; rw [List.all_eq_false]; exact ⟨k, by simpa using h, by simp [hf]⟩
def upto (f : Nat → Bool) (k : Nat) : Prop := ∀ j, j < k → f j = true
theorem upto_zero {f : Nat → Bool} : upto f 0 := fun _ h => by omega
theorem upto_succ {k : Nat} {f : Nat → Bool} (h : upto f k) (hk : f k = true) : upto f (k + 1) := fun j hj => by
  by_cases e : j = k
  · subst e; exact hk
  · exact h j (by omega)
theorem allR_yes {n : Nat} {f : Nat → Bool} (h : upto f n) : allR n f = true := by
  unfold allR; rw [List.all_eq_true]; intro x hx; exact h x (by simpa using hx)
theorem getD_at {xs : List Int} {k : Nat} (h : k < xs.length) : xs.getD k 0 = xs[k] := by simp [List.getD_eq_getElem?_getD, h]
set_option maxHeartbeats 1000000 in
theorem placeOf_ok : FnOk Tryz.prog 141 mPos := by
  refine mk_ok fun ⟨nl, xs, v⟩ _ => ?_
  have hG : FnsOk Tryz.prog [] := .nil
  refine callOk_awp (ctx_ok eqOk hG) mixed (live := [true, true, false, false, true, true, true, true, true, true, true, false, false, false, false, false, true]) (dt := []) Tryz.func141 rfl (by kernel_rfl) (by kernel_rfl) fun w0 hlens => ?_
  simp only [lensL, lens, ints, int, List.length_map] at hlens
  generalize hr : pos xs v = r
  simp [Tryz.f141, List.range, List.range.loop, ints, intss, int, bool, row, frac, fracs, ← List.map_take, ← List.map_drop]
  refine awp_range (live := [true, true, false, false, true, true, true, true, true, true, true, false, false, false, false, false, true]) (ctx_ok eqOk hG) mixed [false, true, false, false, false, false, false, true, true, true] (xs.length) (fun k => posFrom v (xs.drop k) k = r) (fun k => ⟨[.junk, int v, .junk, .junk, .junk, .junk, .junk, ints nl xs, int xs.length, int k, .junk, .junk, .junk, .junk, .junk, .junk, .junk, .junk, .junk], []⟩) ?_ (by simp [sub, slotsLe, clean, keep, refsL, refs, once, place, renL, ren, List.replicate, int, bool, ints]) ?_ ?_ ?_
  · exact hlens.1.1.1
  · simpa [pos] using hr
  · intro k h hp hw
    rw [drop_get h, posFrom] at hp
    by_cases e : xs[k] = v
    · rw [if_pos e] at hp; subst hp
      simp [List.range, List.range.loop, ints, intss, int, bool, row, frac, fracs, ← List.map_take, ← List.map_drop, h, e]
    · rw [if_neg e] at hp
      simp [List.range, List.range.loop, ints, intss, int, bool, row, frac, fracs, ← List.map_take, ← List.map_drop, h, hw, hp, e]
  · intro hp
    simp [posFrom] at hp; subst hp
    simp [List.range, List.range.loop, ints, intss, int, bool, row, frac, fracs, ← List.map_take, ← List.map_drop]
noncomputable def mHas : List AV → Option AV := mk (fun _ => True) (fun (p : (Bool) × (List Int) × (Int)) => [ints p.1 p.2.1, int p.2.2]) (fun p => bool (decide (0 ≤ pos p.2.1 p.2.2)))
theorem mHas_at (nl : Bool) (xs : List Int) (v : Int) : mHas [.sl nl 1 (xs.map int), .v (.int .i64 v)] = some (.v (.bool (decide (0 ≤ pos xs v)))) :=
  mk_eq (enc := fun (p : (Bool) × (List Int) × (Int)) => [ints p.1 p.2.1, int p.2.2]) (x := (nl, xs, v)) (by rintro ⟨a0, a1, a2⟩ ⟨b0, b1, b2⟩ h; simp [ints, intss, int, bool, row, frac, fracs, map_int_inj, map_row_inj, frac_inj, map_frac_inj] at h; simp [h]) trivial
theorem slicesContains_ok : FnOk Tryz.prog 91 mHas := by
  refine mk_ok fun ⟨nl, xs, v⟩ _ => ?_
  have hG : FnsOk Tryz.prog [(132, mPos)] := (.cons slicesIndex_ok .nil)
  refine callOk_awp (ctx_ok eqOk hG) mixed (live := [true, true, false, false, true]) (dt := []) Tryz.func91 rfl (by kernel_rfl) (by kernel_rfl) fun w0 hlens => ?_
  simp [Tryz.f91, List.range, List.range.loop, ints, intss, int, bool, row, frac, fracs, ← List.map_take, ← List.map_drop, mPos_at, ge_zero]
theorem mWithin_in {n lo hi : Int} : mWithin [.v (.int .i64 n), .v (.int .i64 lo), .v (.int .i64 hi)] = some (.v (.bool (inR lo hi n))) := rfl
def awAt (xs : List Int) (i : Nat) : Bool := !(decide (0 ≤ xs.getD i 0) && decide (0 ≤ pos (xs.take i) (xs.getD i 0)))
def isAwd (xs : List Int) : Bool := allR xs.length (awAt xs)
end Go.Proofs.YtigepnpiofcooaaGreat.Ax
namespace Go.Proofs.YtigepnpiofcooaaGreat.Ax
open Go Go.RowKit
set_option linter.unusedSimpArgs false
def at0 (xs : List Int) (i : Nat) : Int := xs.getD i 0
theorem at0_eq {xs : List Int} {i : Nat} (h : i < xs.length) : at0 xs i = xs[i] := getD_at h
def wid (xss : List (Bool × List Int)) : Nat := (xss.headD (true, [])).2.length
def ent (xss : List (Bool × List Int)) (i : Nat) (k : Int) : Int := (xss.getD i (true, [])).2.getD k.toNat 0
end Go.Proofs.YtigepnpiofcooaaGreat.Ax
namespace Go.Proofs.YtigepnpiofcooaaGreat.Ax
open Go Go.RowKit
set_option linter.unusedSimpArgs false
def mxTo (xs : List Int) (k : Nat) : Int := (xs.take k).foldl max (xs.headD 0)
theorem mxTo_one {xs : List Int} (h : 0 < xs.length) : mxTo xs 1 = xs[0] := by
  cases xs with
  | nil => simp at h
  | cons x xs => simp [mxTo]
theorem mxTo_succ {xs : List Int} {k : Nat} (h : k < xs.length) : mxTo xs (k + 1) = max (mxTo xs k) xs[k] := by
  unfold mxTo; rw [List.take_succ_eq_append_getElem h, List.foldl_append]; rfl
def mx (xs : List Int) : Int := mxTo xs xs.length
noncomputable def mMax : List AV → Option AV := mk (fun p => 0 < p.2.length ∧ p.2.length ≤ 2 ^ 40) (fun (p : Bool × List Int) => [ints p.1 p.2]) (fun p => int (mx p.2))
theorem mMax_at (nl : Bool) (xs : List Int) (h : 0 < xs.length) (h' : xs.length ≤ 2 ^ 40) : mMax [.sl nl 1 (xs.map int)] = some (.v (.int .i64 (mx xs))) :=
  mk_eq (enc := fun (p : Bool × List Int) => [ints p.1 p.2]) (x := (nl, xs)) (by rintro ⟨x, x'⟩ ⟨y, y'⟩ h; simp [ints, map_int_inj] at h; simp [h]) ⟨h, h'⟩
set_option maxHeartbeats 1000000 in
theorem max_ok : FnOk Tryz.prog 66 mMax := by
  refine mk_ok fun ⟨nl, xs⟩ ⟨h0, hp⟩ => ?_
  simp only at h0 hp
  refine callOk_of_awp (ctx_ok eqOk .nil) mixed (live := [true, false, true, true, true, false, false, true, false, false, false, false, false, false, false, true]) (dt := []) Tryz.func66 rfl (by kernel_rfl) (by kernel_rfl) fun w0 => ?_
  have hlt : ¬ (xs.length : Int) < 1 := by omega
  simp [Tryz.f66, List.range, List.range.loop, ints, int, hlt, h0]
  refine awp_loop_of (ctx_ok eqOk .nil) mixed (live := [true, false, true, true, true, false, false, true, false, false, false, false, false, false, false, true]) [true, false, false, true, true] (α := {k : Nat // k ≤ xs.length ∧ 1 ≤ k})
    (fun k => ⟨[ints nl xs, .junk, .junk, int (mxTo xs k.1), int k.1, .junk, .junk, .junk, .junk, .junk, .junk, .junk, .junk, .junk, .junk, .junk, .junk, .junk, .junk, .junk, .junk, .junk, .junk, .junk, .junk], []⟩) (fun k => xs.length - k.1) ⟨1, by omega, by omega⟩
    (by simp [sub, slotsLe, clean, keep, refsL, refs, once, place, renL, ren, List.replicate, int, bool, ints, mxTo_one h0]) ?_
  rintro ⟨k, hk, hk1⟩
  by_cases h : k < xs.length
  · simp [List.range, List.range.loop, ints, int, h]
    refine ⟨⟨k + 1, h, by omega⟩, ?_, by simp; omega⟩
    simp [sub, slotsLe, clean, keep, refsL, refs, once, place, renL, ren, List.replicate, int, bool, ints, mxTo_succ h]
    exact wrapI (by omega) (by omega)
  · have hk' : k = xs.length := by omega
    subst hk'
    simp [List.range, List.range.loop, ints, int, h, mx]
def posOf (xs : List Int) (m : Int) (k : Nat) : List Int := ((List.range k).filter fun i => decide (xs[i]? = some m)).map fun (i : Nat) => (i : Int)
theorem posOf_zero {xs : List Int} {m : Int} : posOf xs m 0 = [] := by simp [posOf]
theorem posOf_succ {xs : List Int} {m : Int} {k : Nat} (h : k < xs.length) : posOf xs m (k + 1) = posOf xs m k ++ if xs[k] = m then [(k : Int)] else [] := by
  unfold posOf
  rw [List.range_succ, List.filter_append, List.map_append]
  congr 1
  by_cases e : xs[k] = m
  · simp [h, e]
  · simp [h, e]
theorem posOf_len {xs : List Int} {m : Int} {k : Nat} : (posOf xs m k).length ≤ k := by
  unfold posOf; rw [List.length_map]; exact Nat.le_trans (List.length_filter_le _ _) (by simp)
def outA : List Int → AV
  | [] => .sl true 1 []
  | _ :: l => .ref 0 [] 0 (l.length + 1)
def outT : List Int → List Tok
  | [] => []
  | x :: l => [⟨true, .sl false 1 ((x :: l).map int)⟩]
noncomputable def mGreat : List AV → Option AV := mk (fun p => p.2.length ≤ 2 ^ 40) (fun (p : Bool × List Int) => [ints p.1 p.2]) (fun p => ints (posOf p.2 (mx p.2) p.2.length).isEmpty (posOf p.2 (mx p.2) p.2.length))
theorem mGreat_at (nl : Bool) (xs : List Int) (h' : xs.length ≤ 2 ^ 40) : mGreat [.sl nl 1 (xs.map int)] = some (.sl (posOf xs (mx xs) xs.length).isEmpty 1 ((posOf xs (mx xs) xs.length).map int)) :=
  mk_eq (enc := fun (p : Bool × List Int) => [ints p.1 p.2]) (x := (nl, xs)) (by rintro ⟨x, x'⟩ ⟨y, y'⟩ h; simp [ints, map_int_inj] at h; simp [h]) h'
set_option maxHeartbeats 2000000 in
theorem greatest_ok : FnOk Tryz.prog 24 mGreat := by
  refine mk_ok fun ⟨nl, xs⟩ hp => ?_
  simp only at hp
  have hG : FnsOk Tryz.prog [(66, mMax)] := .cons max_ok .nil
  refine callOk_of_awp (ctx_ok eqOk hG) mixed (live := [true, false, true, true, true, true, true, true, true, true, false, false, false, false, false, false, true]) (dt := []) Tryz.func24 rfl (by kernel_rfl) (by kernel_rfl) fun w0 => ?_
  simp [Tryz.f24, List.range, List.range.loop, ints]
  refine awp_loop_of (ctx_ok eqOk hG) mixed (live := [true, false, true, true, true, true, true, true, true, true, false, false, false, false, false, false, true]) [true, false, false, true, false, false, true, true, true] (α := {k : Nat // k ≤ xs.length})
    (fun k => ⟨[ints nl xs, .junk, .junk, outA (posOf xs (mx xs) k.1), .junk, .junk, ints nl xs, int xs.length, int k.1, .junk, .junk, .junk, .junk, .junk, .junk, .junk, .junk, .junk, .junk, .junk, .junk, .junk, .junk], outT (posOf xs (mx xs) k.1)⟩) (fun k => xs.length - k.1) ⟨0, by omega⟩
    (by simp [sub, slotsLe, clean, keep, refsL, refs, once, place, renL, ren, List.replicate, int, bool, ints, posOf_zero, outA, outT]) ?_
  rintro ⟨k, hk⟩
  have hpl := posOf_len (xs := xs) (m := mx xs) (k := k)
  by_cases h : k < xs.length
  · have hz := mMax_at nl xs (by omega) hp
    have hs := posOf_succ (m := mx xs) h
    by_cases e : xs[k] = mx xs
    · simp [e] at hs
      cases hl : posOf xs (mx xs) k with
      | nil =>
        rw [hl] at hs
        simp [List.range, List.range.loop, ints, int, h, hz, e, outA, outT]
        refine ⟨⟨k + 1, h⟩, ?_, by simp; omega⟩
        simp [sub, slotsLe, clean, keep, refsL, refs, once, place, renL, ren, List.replicate, int, bool, ints, hs, outA, outT]
        exact wrapI (by omega) (by omega)
      | cons a l =>
        rw [hl] at hs hpl
        have hb : (l.length + 1 + 1) * 8 ≤ 140737488355328 := by simp at hpl; omega
        have hb2 : l.length + 1 + 1 ≤ 4611686018427387904 := by simp at hpl; omega
        simp [List.range, List.range.loop, ints, int, h, hz, e, outA, outT, hb, hb2]
        refine ⟨⟨k + 1, h⟩, ?_, by simp; omega⟩
        simp [sub, slotsLe, clean, keep, refsL, refs, once, place, renL, ren, List.replicate, int, bool, ints, hs, outA, outT]
        exact wrapI (by omega) (by omega)
    · simp [e] at hs
      cases hl : posOf xs (mx xs) k with
      | nil =>
        rw [hl] at hs
        simp [List.range, List.range.loop, ints, int, h, hz, e, outA, outT]
        refine ⟨⟨k + 1, h⟩, ?_, by simp; omega⟩
        simp [sub, slotsLe, clean, keep, refsL, refs, once, place, renL, ren, List.replicate, int, bool, ints, hs, outA, outT]
        exact wrapI (by omega) (by omega)
      | cons a l =>
        rw [hl] at hs
        simp [List.range, List.range.loop, ints, int, h, hz, e, outA, outT]
        refine ⟨⟨k + 1, h⟩, ?_, by simp; omega⟩
        simp [sub, slotsLe, clean, keep, refsL, refs, once, place, renL, ren, List.replicate, int, bool, ints, hs, outA, outT]
        exact wrapI (by omega) (by omega)
  · have hk' : k = xs.length := by omega
    subst hk'
    cases hl : posOf xs (mx xs) xs.length with
    | nil => simp [List.range, List.range.loop, ints, int, h, outA, outT]
    | cons a l => simp [List.range, List.range.loop, ints, int, h, outA, outT]
end Go.Proofs.YtigepnpiofcooaaGreat.Ax
namespace Go.Proofs.YtigepnpiofcooaaGreat.Ax
open Go Go.RowKit
set_option linter.unusedSimpArgs false
theorem le_mxTo {xs : List Int} : ∀ {k : Nat}, k ≤ xs.length → ∀ i (hi : i < xs.length), i < k → xs[i] ≤ mxTo xs k
  | 0, _, i, _, h => by omega
  | k + 1, hk, i, hi, h => by
    rw [mxTo_succ (by omega)]
    by_cases e : i = k
    · subst e; omega
    · have := le_mxTo (xs := xs) (k := k) (by omega) i hi (by omega); omega
theorem posOf_mem {xs : List Int} {m : Int} {k : Nat} {z : Int} (h : z ∈ posOf xs m k) : ∃ i : Nat, z = i ∧ i < k ∧ xs[i]? = some m := by
  unfold posOf at h
  simp only [List.mem_map, List.mem_filter, List.mem_range, decide_eq_true_eq] at h
  obtain ⟨i, ⟨h1, h2⟩, rfl⟩ := h
  exact ⟨i, rfl, h1, h2⟩
theorem posOf_none {xs : List Int} {m : Int} {k : Nat} (hk : k ≤ xs.length) (h : ∀ i (hi : i < xs.length), i < k → xs[i] ≠ m) : posOf xs m k = [] := by
  cases hp : posOf xs m k with
  | nil => rfl
  | cons z l =>
    obtain ⟨i, _, h1, h2⟩ := posOf_mem (xs := xs) (m := m) (k := k) (z := z) (by rw [hp]; simp)
    rw [List.getElem?_eq_getElem (by omega)] at h2
    exact (h i (by omega) h1 (Option.some.inj h2)).elim
theorem posOf_ne {xs : List Int} : ∀ {k : Nat}, k ≤ xs.length → 0 < k → posOf xs (mxTo xs k) k ≠ []
  | 0, _, h => by omega
  | k + 1, hk, _ => by
    rw [posOf_succ (by omega)]
    by_cases e : xs[k] = mxTo xs (k + 1)
    · simp [e]
    · by_cases hk0 : k = 0
      · subst hk0
        rw [mxTo_one (by omega)] at e
        exact (e rfl).elim
      · have hm := mxTo_succ (xs := xs) (k := k) (by omega)
        have : mxTo xs (k + 1) = mxTo xs k := by omega
        rw [this]
        have := posOf_ne (xs := xs) (k := k) (by omega) (by omega)
        simp [this]
noncomputable def mBest : List AV → Option AV := mk (fun p => p.2.length ≤ 2 ^ 40) (fun (p : Bool × List Int) => [ints p.1 p.2]) (fun p => ints false (posOf p.2 (mx p.2) p.2.length))
theorem mBest_at (nl : Bool) (xs : List Int) (h' : xs.length ≤ 2 ^ 40) : mBest [.sl nl 1 (xs.map int)] = some (.sl false 1 ((posOf xs (mx xs) xs.length).map int)) :=
  mk_eq (enc := fun (p : Bool × List Int) => [ints p.1 p.2]) (x := (nl, xs)) (by rintro ⟨x, x'⟩ ⟨y, y'⟩ h; simp [ints, map_int_inj] at h; simp [h]) h'
set_option maxHeartbeats 4000000 in
theorem l05Best_ok : FnOk Tryz.prog 44 mBest := by
  refine mk_ok fun ⟨nl, xs⟩ hp => ?_
  simp only at hp
  refine callOk_of_awp (ctx_ok eqOk .nil) mixed (live := [true, false, true, true, true, true, false, true, true, true, true, false, false, false, true, false, false, false, false, false, false, false, false, false, false, false, false, false, false, false, true]) (dt := []) Tryz.func44 rfl (by kernel_rfl) (by kernel_rfl) fun w0 => ?_
  simp [Tryz.f44, List.range, List.range.loop, ints]
  refine awp_loop_of (ctx_ok eqOk .nil) mixed (live := [true, false, true, true, true, true, false, true, true, true, true, false, false, false, true, false, false, false, false, false, false, false, false, false, false, false, false, false, false, false, true]) [true, false, false, true, false, false, false, true, true, true] (α := {k : Nat // k ≤ xs.length})
    (fun k => ⟨[ints nl xs, .junk, .junk, .ref 0 [] 0 (posOf xs (mxTo xs k.1) k.1).length, .junk, .junk, .junk, ints nl xs, int xs.length, int k.1, .junk, .junk, .junk, .junk, .junk, .junk, .junk, .junk, .junk, .junk, .junk, .junk, .junk, .junk, .junk, .junk, .junk, .junk, .junk, .junk, .junk, .junk, .junk, .junk, .junk, .junk, .junk, .junk, .junk, .junk, .junk, .junk, .junk, .junk, .junk], [⟨true, .sl false 1 ((posOf xs (mxTo xs k.1) k.1).map int)⟩]⟩) (fun k => xs.length - k.1) ⟨0, by omega⟩
    (by simp [sub, slotsLe, clean, keep, refsL, refs, once, place, renL, ren, List.replicate, int, bool, ints, posOf_zero]) ?_
  rintro ⟨k, hk⟩
  have hpl := posOf_len (xs := xs) (m := mxTo xs k) (k := k)
  by_cases h : k < xs.length
  · have hm := mxTo_succ h
    have hs := posOf_succ (m := mxTo xs (k + 1)) h
    cases hl : posOf xs (mxTo xs k) k with
    | nil =>
      have hk0 : k = 0 := by
        by_cases e : k = 0
        · exact e
        · exact (posOf_ne (by omega) (by omega) hl).elim
      subst hk0
      have h1 : posOf xs (mxTo xs 1) 1 = [0] := by
        rw [Nat.zero_add] at hs
        rw [hs, mxTo_one h, posOf_zero]; simp
      simp [List.range, List.range.loop, ints, int, h, h1]
      refine ⟨⟨1, h⟩, ?_, by simp; omega⟩
      simp [sub, slotsLe, clean, keep, refsL, refs, once, place, renL, ren, List.replicate, int, bool, ints, h1]
      exact wrapI (by omega) (by omega)
    | cons a l =>
      obtain ⟨p, rfl, hpk, hpm⟩ := posOf_mem (xs := xs) (m := mxTo xs k) (k := k) (z := a) (by rw [hl]; simp)
      have hpx : p < xs.length := by omega
      rw [List.getElem?_eq_getElem hpx] at hpm
      have hpm' : xs[p] = mxTo xs k := Option.some.inj hpm
      rw [hl] at hpl
      have hb : (l.length + 1 + 1) * 8 ≤ 140737488355328 := by simp at hpl; omega
      have hb2 : l.length + 1 + 1 ≤ 4611686018427387904 := by simp at hpl; omega
      have hz0 : (((l.length : Int) + 1) == 0) = false := beq_false_of_ne (by omega)
      by_cases hgt : mxTo xs k < xs[k]
      · have hm2 : mxTo xs (k + 1) = xs[k] := by omega
        have hn : posOf xs (mxTo xs (k + 1)) (k + 1) = [(k : Int)] := by
          rw [hs, hm2, posOf_none (by omega) fun i hi hik => by have := le_mxTo (xs := xs) (k := k) (by omega) i hi hik; omega]; simp
        simp [List.range, List.range.loop, ints, int, h, hl, hz0, hpx, hpm', hgt]
        refine ⟨⟨k + 1, h⟩, ?_, by simp; omega⟩
        simp [sub, slotsLe, clean, keep, refsL, refs, once, place, renL, ren, List.replicate, int, bool, ints, hn]
        try exact wrapI (by omega) (by omega)
      · have hm2 : mxTo xs (k + 1) = mxTo xs k := by omega
        rw [hm2, hl] at hs
        by_cases heq : xs[k] = mxTo xs k
        · simp [heq] at hs
          simp [List.range, List.range.loop, ints, int, h, hl, hz0, hpx, hpm', hgt, heq, hb, hb2]
          refine ⟨⟨k + 1, h⟩, ?_, by simp; omega⟩
          simp [sub, slotsLe, clean, keep, refsL, refs, once, place, renL, ren, List.replicate, int, bool, ints, hm2, hs]
          try exact wrapI (by omega) (by omega)
        · simp [heq] at hs
          have heq' : (xs[k] == mxTo xs k) = false := by simpa using heq
          simp [List.range, List.range.loop, ints, int, h, hl, hz0, hpx, hpm', hgt, heq, heq']
          refine ⟨⟨k + 1, h⟩, ?_, by simp; omega⟩
          simp [sub, slotsLe, clean, keep, refsL, refs, once, place, renL, ren, List.replicate, int, bool, ints, hm2, hs]
          try exact wrapI (by omega) (by omega)
  · have hk' : k = xs.length := by omega
    subst hk'
    simp [List.range, List.range.loop, ints, int, h, mx]
end Go.Proofs.YtigepnpiofcooaaGreat.Ax
