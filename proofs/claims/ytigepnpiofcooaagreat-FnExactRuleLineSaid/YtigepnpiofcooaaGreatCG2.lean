/-
  Plain laws on fractions: parts of 1, differences, products, the points of an heir. No condition.
-/
import Derived.Test.YtigepnpiofcooaaGreatCG1
import Derived.Test.YtigepnpiofcooaaGreatCB2
import Derived.Test.YtigepnpiofcooaaGreatCB1
import Derived.Test.YtigepnpiofcooaaGreatCK4
namespace Go.Proofs.YtigepnpiofcooaaGreat.Ax
open Go Go.RowKit
set_option linter.unusedSimpArgs false
end Go.Proofs.YtigepnpiofcooaaGreat.Ax
namespace Go.Proofs.YtigepnpiofcooaaGreat.Ax
open Go Go.RowKit
set_option linter.unusedSimpArgs false
end Go.Proofs.YtigepnpiofcooaaGreat.Ax
namespace Go.Proofs.YtigepnpiofcooaaGreat.Ax
open Go Go.RowKit
set_option linter.unusedSimpArgs false
def awTo (xss : List (Bool × List Int)) (aw : List Int) : Nat → Int
  | 0 => 0
  | k + 1 => if 0 ≤ aw.getD k 0 then IntKind.i64.wrap (awTo xss aw k + ent xss k (aw.getD k 0)) else awTo xss aw k
end Go.Proofs.YtigepnpiofcooaaGreat.Ax
namespace Go.Proofs.YtigepnpiofcooaaGreat.Ax
open Go Go.RowKit
set_option linter.unusedSimpArgs false
def woTo (xss : List (Bool × List Int)) (l : List Int) (i : Nat) (k : Int) : Nat → Int
  | 0 => 0
  | m + 1 => if l.getD m 0 = k then IntKind.i64.wrap (woTo xss l i k m + ent xss i m) else woTo xss l i k m
def wo (xss : List (Bool × List Int)) (l : List Int) (i : Nat) (k : Int) : Int := woTo xss l i k l.length
end Go.Proofs.YtigepnpiofcooaaGreat.Ax
namespace Go.Proofs.YtigepnpiofcooaaGreat.Ax
open Go Go.RowKit
set_option linter.unusedSimpArgs false
theorem posFrom_app {v : Int} {xs ys : List Int} : ∀ {k : Nat}, posFrom v (xs ++ ys) k = if 0 ≤ posFrom v xs k then posFrom v xs k else posFrom v ys (k + xs.length) := by
  induction xs with
  | nil => intro k; simp [posFrom]
  | cons x xs ih =>
    intro k
    simp only [List.cons_append, posFrom]
    by_cases e : x = v
    · simp [e]
    · simp only [if_neg e]
      rw [ih]; simp [Nat.add_assoc, Nat.add_comm 1]
theorem pos_snoc {v x : Int} {xs : List Int} : decide (0 ≤ pos (xs ++ [x]) v) = (decide (0 ≤ pos xs v) || decide (x = v)) := by
  unfold pos
  rw [posFrom_app]
  by_cases h : 0 ≤ posFrom v xs 0
  · simp [h]
  · by_cases e : x = v
    · simp [h, posFrom, e]
    · simp [h, posFrom, e]
def seenL (n : Nat) (l : List Int) (k : Nat) : List Bool := (List.range n).map fun (v : Nat) => decide (0 ≤ pos (l.take k) v)
theorem seenL_zero {n : Nat} {l : List Int} : seenL n l 0 = List.replicate n false := by
  unfold seenL
  apply List.ext_getElem
  · simp
  · intro i h1 h2; simp [pos, posFrom]
theorem seenL_len {n : Nat} {l : List Int} {k : Nat} : (seenL n l k).length = n := by simp [seenL]
theorem seenL_at {n : Nat} {l : List Int} {k i : Nat} (h : i < (seenL n l k).length) : (seenL n l k)[i] = decide (0 ≤ pos (l.take k) (i : Int)) := by simp [seenL]
theorem seenL_set {n : Nat} {l : List Int} {k : Nat} (hk : k < l.length) (h0 : 0 ≤ l[k]) (_h : l[k].toNat < n) : ((seenL n l k).map bool).set l[k].toNat (bool true) = (seenL n l (k + 1)).map bool := by
  rw [← List.map_set]
  congr 1
  apply List.ext_getElem
  · simp [seenL]
  · intro i h1 h2
    rw [List.getElem_set]
    simp only [seenL, List.getElem_map, List.getElem_range, List.take_succ_eq_append_getElem hk, pos_snoc]
    by_cases e : l[k].toNat = i
    · simp [← e]; omega
    · have : l[k] ≠ (i : Int) := by omega
      simp [e, this]
end Go.Proofs.YtigepnpiofcooaaGreat.Ax
namespace Go.Proofs.YtigepnpiofcooaaGreat.Ax
open Go Go.RowKit
set_option linter.unusedSimpArgs false
def rankAt (m : Int) (l : List Int) (k : Nat) : Bool := inR 0 (m - 1) (l.getD k 0) && !decide (0 ≤ pos (l.take k) (l.getD k 0))
def rankB (m : Int) (l : List Int) : Bool := inR 1 5 m && decide (l.length = m) && allR l.length (rankAt m l)
noncomputable def mRank : List AV → Option AV := mk (fun _ => True) (fun (p : (Int) × (Bool) × (List Int)) => [int p.1, ints p.2.1 p.2.2]) (fun p => bool (rankB p.1 p.2.2))
theorem mRank_at (m : Int) (nl : Bool) (l : List Int) : mRank [.v (.int .i64 m), .sl nl 1 (l.map int)] = some (.v (.bool (rankB m l))) :=
  mk_eq (enc := fun (p : (Int) × (Bool) × (List Int)) => [int p.1, ints p.2.1 p.2.2]) (x := (m, nl, l)) (by rintro ⟨a0, a1, a2⟩ ⟨b0, b1, b2⟩ h; simp [ints, intss, int, bool, row, frac, fracs, map_int_inj, map_row_inj, frac_inj, map_frac_inj] at h; simp [h]) trivial
theorem rankAt_at {m : Int} {l : List Int} {k : Nat} (h : k < l.length) : rankAt m l k = (inR 0 (m - 1) l[k] && !decide (0 ≤ pos (l.take k) l[k])) := by unfold rankAt; rw [getD_at h]
set_option maxHeartbeats 2000000 in
theorem implRankingOk_ok : FnOk Tryz.prog 60 mRank := by
  refine mk_ok fun ⟨m, nl, l⟩ _ => ?_
  have hG : FnsOk Tryz.prog [(57, mWithin), (91, mHas)] := (.cons within_ok (.cons slicesContains_ok .nil))
  refine callOk_awp (ctx_ok eqOk hG) mixed (live := [true, true, false, false, true, true, true, false, false, false, false, false, false, false, false, true, true, true, true, true, false, false, false, false, false, false, false, false, false, false, false, false, false, false, true]) (dt := []) Tryz.func60 rfl (by kernel_rfl) (by kernel_rfl) fun w0 hlens => ?_
  clear hlens
  cases h1 : inR 1 5 m with
  | false => simp (config := {contextual := true}) [Tryz.f60, List.range, List.range.loop, ints, intss, int, bool, row, frac, fracs, ← List.map_take, ← List.map_drop, mWithin_in, h1, rankB]
  | true =>
  have hm := h1
  simp only [inR, Bool.and_eq_true, decide_eq_true_eq] at hm
  by_cases h2 : (l.length : Int) = m
  rotate_left
  · have h2' : ((l.length : Int) != m) = true := by simpa using h2
    simp (config := {contextual := true}) [Tryz.f60, List.range, List.range.loop, ints, intss, int, bool, row, frac, fracs, ← List.map_take, ← List.map_drop, mWithin_in, h1, h2, h2', rankB]
  subst h2
  have hw0 : IntKind.i64.wrap ((l.length : Int) - 1) = (l.length : Int) - 1 := wrapI (by omega) (by omega)
  have hr : rankB l.length l = allR l.length (rankAt l.length l) := by simp [rankB, h1]
  generalize hres : rankB l.length l = r at hr
  simp (config := {contextual := true}) [Tryz.f60, List.range, List.range.loop, ints, intss, int, bool, row, frac, fracs, ← List.map_take, ← List.map_drop, mWithin_in, h1]
  refine awp_range (live := [true, true, false, false, true, true, true, false, false, false, false, false, false, false, false, true, true, true, true, true, false, false, false, false, false, false, false, false, false, false, false, false, false, false, true]) (ctx_ok eqOk hG) mixed [true, true, false, false, false, false, false, false, false, false, false, false, false, false, false, false, true, true, true] (l.length) (fun k => upto (rankAt l.length l) k) (fun k => ⟨[int l.length, ints nl l, .junk, .junk, .junk, .junk, .junk, .junk, .junk, .junk, .junk, .junk, .junk, .junk, .junk, .junk, ints nl l, int l.length, int k, .junk, .junk, .junk, .junk, .junk, .junk, .junk, .junk, .junk, .junk, .junk, .junk, .junk, .junk, .junk, .junk, .junk], []⟩) ?_ (by simp [sub, slotsLe, clean, keep, refsL, refs, once, place, renL, ren, List.replicate, int, bool, ints]) ?_ ?_ ?_
  · omega
  · exact upto_zero
  · intro k h hp hwk
    have hf : rankAt l.length l k = false → r = false := fun hf => by rw [hr]; exact allR_no h hf
    have ht := upto_succ hp
    clear hp
    have e := rankAt_at (m := l.length) h
    generalize rankAt l.length l = f at *
    generalize hi : inR 0 ((l.length : Int) - 1) l[k] = ii at e
    rw [e] at hf ht
    simp at hf ht
    simp (config := {contextual := true}) [List.range, List.range.loop, ints, intss, int, bool, row, frac, fracs, ← List.map_take, ← List.map_drop, h, hwk, hw0, mWithin_in, mHas_at, hi, Nat.le_of_lt h]
    grind
  · intro hp
    rw [allR_yes hp] at hr
    subst hr
    simp (config := {contextual := true}) [List.range, List.range.loop, ints, intss, int, bool, row, frac, fracs, ← List.map_take, ← List.map_drop]
set_option maxHeartbeats 2000000 in
theorem specRankingOk_ok : FnOk Tryz.prog 39 mRank := by
  refine mk_ok fun ⟨m, nl, l⟩ _ => ?_
  have hG : FnsOk Tryz.prog [(38, mWithin)] := (.cons l01In_ok .nil)
  refine callOk_awp (ctx_ok eqOk hG) mixed (live := [true, true, false, false, true, true, false, true, false, false, false, false, false, false, false, false, true, false, false, true, true, true, true, false, false, false, false, false, false, false, false, false, false, false, false, true]) (dt := []) Tryz.func39 rfl (by kernel_rfl) (by kernel_rfl) fun w0 hlens => ?_
  clear hlens
  cases h1 : inR 1 5 m with
  | false => simp (config := {contextual := true}) [Tryz.f39, List.range, List.range.loop, ints, intss, int, bool, row, frac, fracs, ← List.map_take, ← List.map_drop, mWithin_in, h1, rankB]
  | true =>
  have hm := h1
  simp only [inR, Bool.and_eq_true, decide_eq_true_eq] at hm
  by_cases h2 : (l.length : Int) = m
  rotate_left
  · have h2' : ((l.length : Int) != m) = true := by simpa using h2
    simp (config := {contextual := true}) [Tryz.f39, List.range, List.range.loop, ints, intss, int, bool, row, frac, fracs, ← List.map_take, ← List.map_drop, mWithin_in, h1, h2, h2', rankB]
  subst h2
  have hw0 : IntKind.i64.wrap ((l.length : Int) - 1) = (l.length : Int) - 1 := wrapI (by omega) (by omega)
  have hr : rankB l.length l = allR l.length (rankAt l.length l) := by simp [rankB, h1]
  generalize hres : rankB l.length l = r at hr
  have hb1 : l.length ≤ 281474976710656 := by omega
  have hb2 : l.length ≤ 4611686018427387904 := by omega
  simp (config := {contextual := true}) [Tryz.f39, List.range, List.range.loop, ints, intss, int, bool, row, frac, fracs, ← List.map_take, ← List.map_drop, mWithin_in, h1, hb1, hb2]
  refine awp_range (live := [true, true, false, false, true, true, false, true, false, false, false, false, false, false, false, false, true, false, false, true, true, true, true, false, false, false, false, false, false, false, false, false, false, false, false, true]) (ctx_ok eqOk hG) mixed [true, false, false, false, false, true, false, false, false, false, false, false, false, false, false, false, false, false, false, true, true, true] (l.length) (fun k => upto (rankAt l.length l) k) (fun k => ⟨[int l.length, .junk, .junk, .junk, .junk, .ref 0 [] 0 l.length, .junk, .junk, .junk, .junk, .junk, .junk, .junk, .junk, .junk, .junk, .junk, .junk, .junk, ints nl l, int l.length, int k, .junk, .junk, .junk, .junk, .junk, .junk, .junk, .junk, .junk, .junk, .junk, .junk, .junk, .junk, .junk, .junk, .junk, .junk], [⟨true, .sl false 1 ((seenL l.length l k).map bool)⟩]⟩) ?_ (by simp [sub, slotsLe, clean, keep, refsL, refs, once, place, renL, ren, List.replicate, int, bool, ints, seenL_zero]) ?_ ?_ ?_
  · omega
  · exact upto_zero
  · intro k h hp hwk
    have hf : rankAt l.length l k = false → r = false := fun hf => by rw [hr]; exact allR_no h hf
    have ht := upto_succ hp
    clear hp
    have e := rankAt_at (m := l.length) h
    have i0 : inR 0 ((l.length : Int) - 1) l[k] = true → 0 ≤ l[k] := fun hi => by simp [inR] at hi; omega
    have i1 : inR 0 ((l.length : Int) - 1) l[k] = true → l[k].toNat < l.length := fun hi => by simp [inR] at hi; omega
    have i4 : inR 0 ((l.length : Int) - 1) l[k] = true → ((l[k].toNat : Nat) : Int) = l[k] := fun hi => by have := i0 hi; omega
    have i3 : inR 0 ((l.length : Int) - 1) l[k] = true → ((seenL l.length l k).map bool).set l[k].toNat (.v (.bool true)) = (seenL l.length l (k + 1)).map bool := fun hi => seenL_set h (i0 hi) (i1 hi)
    generalize rankAt l.length l = f at *
    rw [e] at hf ht
    simp at hf ht
    simp (config := {contextual := true}) [List.range, List.range.loop, ints, intss, int, bool, row, frac, fracs, ← List.map_take, ← List.map_drop, h, hwk, hw0, mWithin_in, i0, i1, i3, i4, seenL_at, seenL_len]
    grind
  · intro hp
    rw [allR_yes hp] at hr
    subst hr
    simp (config := {contextual := true}) [List.range, List.range.loop, ints, intss, int, bool, row, frac, fracs, ← List.map_take, ← List.map_drop]
end Go.Proofs.YtigepnpiofcooaaGreat.Ax
namespace Go.Proofs.YtigepnpiofcooaaGreat.Ax
open Go Go.RowKit
set_option linter.unusedSimpArgs false
def cmpI (x y : Int) : Int := if x < y then -1 else if y < x then 1 else 0
noncomputable def mCmpI : List AV → Option AV := mk (fun _ => True) (fun (p : (Int) × (Int)) => [int p.1, int p.2]) (fun p => int (cmpI p.1 p.2))
theorem mCmpI_at (x : Int) (y : Int) : mCmpI [.v (.int .i64 x), .v (.int .i64 y)] = some (.v (.int .i64 (cmpI x y))) :=
  mk_eq (enc := fun (p : (Int) × (Int)) => [int p.1, int p.2]) (x := (x, y)) (by rintro ⟨a0, a1⟩ ⟨b0, b1⟩ h; simp [ints, intss, int, bool, row, frac, fracs, map_int_inj, map_row_inj, frac_inj, map_frac_inj] at h; simp [h]) trivial
noncomputable def mNaN : List AV → Option AV := mk (fun _ => True) (fun (p : (Int)) => [int p]) (fun _ => bool false)
theorem mNaN_at (x : Int) : mNaN [.v (.int .i64 x)] = some (.v (.bool false)) :=
  mk_eq (enc := fun (p : (Int)) => [int p]) (x := (x)) (by rintro a0 b0 h; simp [ints, intss, int, bool, row, frac, fracs, map_int_inj, map_row_inj, frac_inj, map_frac_inj] at h; simp [h]) trivial
theorem isNaN_ok : FnOk Tryz.prog 113 mNaN := by
  refine mk_ok fun x _ => ?_
  have hG : FnsOk Tryz.prog [] := .nil
  refine callOk_awp (ctx_ok eqOk hG) mixed (live := [true, false, true]) (dt := []) Tryz.func113 rfl (by kernel_rfl) (by kernel_rfl) fun w0 hlens => ?_
  simp [Tryz.f113, List.range, List.range.loop, ints, intss, int, bool, row, frac, fracs, ← List.map_take, ← List.map_drop]
set_option maxHeartbeats 1000000 in
theorem cmpCompare_ok : FnOk Tryz.prog 67 mCmpI := by
  refine mk_ok fun ⟨x, y⟩ _ => ?_
  have hG : FnsOk Tryz.prog [(113, mNaN)] := (.cons isNaN_ok .nil)
  refine callOk_awp (ctx_ok eqOk hG) mixed (live := [true, true, false, false, true, true, true, false, false, false, false, true, true, true, false, false, true, false, false, true]) (dt := []) Tryz.func67 rfl (by kernel_rfl) (by kernel_rfl) fun w0 hlens => ?_
  by_cases h1 : x < y
  · simp [Tryz.f67, List.range, List.range.loop, ints, intss, int, bool, row, frac, fracs, ← List.map_take, ← List.map_drop, mNaN_at, h1, cmpI]
  · by_cases h2 : y < x <;> simp [Tryz.f67, List.range, List.range.loop, ints, intss, int, bool, row, frac, fracs, ← List.map_take, ← List.map_drop, mNaN_at, h1, h2, cmpI]
theorem nodup_le : ∀ {L M : List Nat}, L.Nodup → (∀ x ∈ L, x ∈ M) → L.length ≤ M.length
  | [], _, _, _ => by simp
  | x :: L, M, h, hs => by
    rw [List.nodup_cons] at h
    have hx := hs x (by simp)
    have := nodup_le (L := L) (M := M.erase x) h.2 fun y hy => (List.mem_erase_of_ne (fun (e : y = x) => h.1 (by rw [← e]; exact hy))).2 (hs y (by simp [hy]))
    rw [List.length_erase_of_mem hx] at this
    have hp := List.length_pos_of_mem hx
    simp only [List.length_cons]; omega
theorem posFrom_iff {v : Int} : ∀ {xs : List Int} {k : Nat}, 0 ≤ posFrom v xs k ↔ v ∈ xs
  | [], k => by simp [posFrom]
  | x :: xs, k => by
    rw [posFrom]
    by_cases e : x = v
    · rw [if_pos e]; subst e; simp
    · rw [if_neg e, posFrom_iff, List.mem_cons]; exact ⟨.inr, fun h => h.resolve_left fun e' => e e'.symm⟩
theorem pos_iff {v : Int} {xs : List Int} : 0 ≤ pos xs v ↔ v ∈ xs := posFrom_iff
theorem rank_facts {m : Int} {l : List Int} (h : rankB m l = true) : 1 ≤ m ∧ m ≤ 5 ∧ (l.length : Int) = m ∧ (∀ i (hi : i < l.length), 0 ≤ l[i] ∧ l[i] < m) ∧ l.Nodup := by
  simp only [rankB, Bool.and_eq_true, decide_eq_true_eq, inR] at h
  obtain ⟨⟨⟨h1, h2⟩, h3⟩, h4⟩ := h
  have hat : ∀ i (hi : i < l.length), (0 ≤ l[i] ∧ l[i] < m) ∧ l[i] ∉ l.take i := fun i hi => by
    have := List.all_eq_true.1 h4 i (by simpa using hi)
    rw [rankAt_at hi] at this
    simp only [Bool.and_eq_true, inR, decide_eq_true_eq, Bool.not_eq_true', decide_eq_false_iff_not, pos_iff] at this
    exact ⟨⟨this.1.1, by omega⟩, this.2⟩
  refine ⟨h1, h2, h3, fun i hi => (hat i hi).1, ?_⟩
  rw [List.nodup_iff_pairwise_ne, List.pairwise_iff_getElem]
  intro i j hi hj hij e
  exact (hat j hj).2 (List.mem_iff_getElem.2 ⟨i, by simp; omega, by rw [List.getElem_take]; exact e⟩)
theorem rank_all {m : Int} {l : List Int} (h : rankB m l = true) {i : Nat} (hi : (i : Int) < m) : ∃ k, ∃ hk : k < l.length, l[k] = i := by
  obtain ⟨h1, h2, h3, h4, h5⟩ := rank_facts h
  apply Classical.byContradiction
  intro hno
  have hin : ∀ x ∈ l, 0 ≤ x ∧ x < m := fun x hx => by
    obtain ⟨j, hj, rfl⟩ := List.getElem_of_mem hx; exact h4 j hj
  have hni : (i : Int) ∉ l := fun hx => by
    obtain ⟨j, hj, e⟩ := List.getElem_of_mem hx; exact hno ⟨j, hj, e⟩
  have hnd : (i :: l.map Int.toNat).Nodup := by
    rw [List.nodup_cons]
    refine ⟨fun hx => ?_, ?_⟩
    · obtain ⟨x, hx, e⟩ := List.mem_map.1 hx
      have := hin x hx
      exact hni (by rw [← e, Int.toNat_of_nonneg this.1]; exact hx)
    · rw [List.nodup_iff_pairwise_ne, List.pairwise_map]
      rw [List.nodup_iff_pairwise_ne] at h5
      refine List.Pairwise.imp_of_mem (fun {a b} ha hb hab e => hab ?_) h5
      have := hin a ha; have := hin b hb; omega
  have := nodup_le (M := List.range l.length) hnd fun x hx => by
    rw [List.mem_range]
    rcases List.mem_cons.1 hx with rfl | hx
    · omega
    · obtain ⟨y, hy, rfl⟩ := List.mem_map.1 hx
      have := hin y hy; omega
  simp at this
  omega
end Go.Proofs.YtigepnpiofcooaaGreat.Ax
namespace Go.Proofs.YtigepnpiofcooaaGreat.Ax
open Go Go.RowKit
set_option linter.unusedSimpArgs false
end Go.Proofs.YtigepnpiofcooaaGreat.Ax
namespace Go.Proofs.YtigepnpiofcooaaGreat.Ax
open Go Go.RowKit
end Go.Proofs.YtigepnpiofcooaaGreat.Ax
namespace Go.Proofs.YtigepnpiofcooaaGreat.Ax
open Go Go.RowKit
set_option linter.unusedSimpArgs false
end Go.Proofs.YtigepnpiofcooaaGreat.Ax
