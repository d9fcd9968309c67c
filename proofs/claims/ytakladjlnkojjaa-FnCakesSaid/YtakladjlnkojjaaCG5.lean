/-
  Contracts: IsDivision of the reference, PieceEnvy (both programs). No condition.
-/
import Derived.Test.YtakladjlnkojjaaCG4
import Derived.Test.YtakladjlnkojjaaCG2
import Derived.Test.YtakladjlnkojjaaCG3
import Derived.Ground.SlgnProg
import Derived.Shelf.SlicesE.Delete
namespace Go.Proofs.Ytakladjlnkojjaa.Ax
open Go Go.RowKit
set_option linter.unusedSimpArgs false

theorem posFrom_app {v : Int} {xs ys : List Int} : ∀ {k : Nat}, posFrom v (xs ++ ys) k = if 0 ≤ posFrom v xs k then posFrom v xs k else posFrom v ys (k + xs.length) := by
  induction xs with
  | nil => intro k; simp [posFrom]
  | cons x xs ih =>
    intro k
    simp only [List.cons_append, posFrom]
    by_cases e : x = v
    · simp [e]
    · simp only [if_neg e]
      rw [ih]; simp [Nat.add_assoc, Nat.add_comm 1]
theorem pos_snoc {v x : Int} {xs : List Int} : decide (0 ≤ pos (xs ++ [x]) v) = (decide (0 ≤ pos xs v) || decide (x = v)) := by
  unfold pos
  rw [posFrom_app]
  by_cases h : 0 ≤ posFrom v xs 0
  · simp [h]
  · by_cases e : x = v
    · simp [h, posFrom, e]
    · simp [h, posFrom, e]

/-- Whose pieces were met among the first k. -/
def seenL (n : Nat) (l : List Int) (k : Nat) : List Bool := (List.range n).map fun (v : Nat) => decide (0 ≤ pos (l.take k) v)
theorem seenL_zero {n : Nat} {l : List Int} : seenL n l 0 = List.replicate n false := by
  unfold seenL
  apply List.ext_getElem
  · simp
  · intro i h1 h2; simp [pos, posFrom]
theorem seenL_len {n : Nat} {l : List Int} {k : Nat} : (seenL n l k).length = n := by simp [seenL]
theorem seenL_at {n : Nat} {l : List Int} {k i : Nat} (h : i < (seenL n l k).length) : (seenL n l k)[i] = decide (0 ≤ pos (l.take k) (i : Int)) := by simp [seenL]
theorem seenL_get {n : Nat} {l : List Int} {k : Nat} {x : Int} (h0 : 0 ≤ x) (h : x.toNat < n) : (seenL n l k)[x.toNat]? = some (decide (0 ≤ pos (l.take k) x)) := by
  unfold seenL
  have e : ((x.toNat : Nat) : Int) = x := by omega
  simp [h, e]
theorem seenL_set {n : Nat} {l : List Int} {k : Nat} (hk : k < l.length) (h0 : 0 ≤ l[k]) (_h : l[k].toNat < n) : ((seenL n l k).map bool).set l[k].toNat (bool true) = (seenL n l (k + 1)).map bool := by
  rw [← List.map_set]
  congr 1
  apply List.ext_getElem
  · simp [seenL]
  · intro i h1 h2
    rw [List.getElem_set]
    simp only [seenL, List.getElem_map, List.getElem_range, List.take_succ_eq_append_getElem hk, pos_snoc]
    by_cases e : l[k].toNat = i
    · simp [← e]; omega
    · have : l[k] ≠ (i : Int) := by omega
      simp [e, this]

theorem div_rect {xss : List (Bool × List Int)} {l : List Int} (h : divB xss l = true) : rectB xss 3 10 100 = true ∧ l.length = wid xss := by
  simp only [divB, Bool.and_eq_true, decide_eq_true_eq] at h
  exact ⟨h.1.1.1, h.1.1.2⟩

theorem wo_pre {xss : List (Bool × List Int)} {l : List Int} {a b c : Int} (h : rectB xss a b c = true) (hl : l.length ≤ wid xss) {i : Nat} (hi : i < xss.length) : (0 : Int) ≤ (i : Int) ∧ ((i : Int)).toNat < xss.length ∧ l.length ≤ (xss.getD ((i : Int)).toNat (true, [])).2.length := by
  have hr := (rect_row h hi).1
  refine ⟨by omega, by simpa using hi, ?_⟩
  rw [Int.toNat_natCast, List.getD_eq_getElem?_getD, List.getElem?_eq_getElem hi]
  simp only [Option.getD_some]; omega

/-- How much person i envies person k. -/
def envD (xss : List (Bool × List Int)) (l : List Int) (i k : Nat) : Int := IntKind.i64.wrap (wo xss l i k - wo xss l i i)
/-- The most that person i envies one of the first k, and m. -/
def peRow (xss : List (Bool × List Int)) (l : List Int) (i : Nat) (m : Int) : Nat → Int
  | 0 => m
  | k + 1 => max (peRow xss l i m k) (envD xss l i k)
def peTo (xss : List (Bool × List Int)) (l : List Int) : Nat → Int
  | 0 => 0
  | i + 1 => peRow xss l i (peTo xss l i) xss.length
theorem peRow_nn {xss : List (Bool × List Int)} {l : List Int} {i : Nat} {m : Int} (h : 0 ≤ m) : ∀ k, 0 ≤ peRow xss l i m k
  | 0 => h
  | k + 1 => by have := peRow_nn (xss := xss) (l := l) (i := i) h k; rw [peRow]; omega
theorem peTo_nn {xss : List (Bool × List Int)} {l : List Int} : ∀ i, 0 ≤ peTo xss l i
  | 0 => by simp [peTo]
  | i + 1 => peRow_nn (peTo_nn i) _

noncomputable def mPiece : List AV → Option AV := mk (fun _ => True) (fun (p : (Bool) × (List (Bool × List Int)) × (Bool) × (List Int)) => [intss p.1 p.2.1, ints p.2.2.1 p.2.2.2]) (fun p => int (if divB p.2.1 p.2.2.2 = true then peTo p.2.1 p.2.2.2 p.2.1.length else -1))
theorem mPiece_at (nl : Bool) (xss : List (Bool × List Int)) (nl' : Bool) (l : List Int) : mPiece [.sl nl 1 (xss.map row), .sl nl' 1 (l.map int)] = some (.v (.int .i64 (if divB xss l = true then peTo xss l xss.length else -1))) :=
  mk_eq (enc := fun (p : (Bool) × (List (Bool × List Int)) × (Bool) × (List Int)) => [intss p.1 p.2.1, ints p.2.2.1 p.2.2.2]) (x := (nl, xss, nl', l)) (by rintro ⟨a0, a1, a2, a3⟩ ⟨b0, b1, b2, b3⟩ h; simp [ints, intss, int, bool, row, frac, fracs, map_int_inj, map_row_inj, frac_inj, map_frac_inj] at h; simp [h]) trivial

set_option maxHeartbeats 1000000 in
theorem implPieceEnvy_ok : FnOk Try.prog 36 mPiece := by
  refine mk_ok fun ⟨nl, xss, nl', l⟩ _ => ?_
  have hG : FnsOk Try.prog [(33, mDiv), (80, mWorth)] := (.cons implIsDivision_ok (.cons worth_ok .nil))
  refine callOk_awp (ctx_ok eqOk hG) mixed (live := [true, true, false, false, true, true, true, true, false, false, false, true, false, true, true, true, false, false, true, true, true]) (dt := []) Try.func36 rfl (by kernel_rfl) (by kernel_rfl) fun w0 hlens => ?_
  cases hd : divB xss l with
  | false => simp (config := {contextual := true}) [Try.f36, List.range, List.range.loop, ints, intss, int, bool, row, frac, fracs, ← List.map_take, ← List.map_drop, mDiv_at, hd]
  | true =>
    obtain ⟨h1, h2⟩ := div_rect hd
    have hl := rect_len h1
    simp (config := {contextual := true}) [Try.f36, List.range, List.range.loop, ints, intss, int, bool, row, frac, fracs, ← List.map_take, ← List.map_drop, mDiv_at, hd]
    refine awp_range (live := [true, true, false, false, true, true, true, true, false, false, false, true, false, true, true, true, false, false, true, true, true]) (ctx_ok eqOk hG) mixed [true, true, false, false, false, true, false, false, false, false, false, false, false, true, true] (xss.length) (fun i => True) (fun i => ⟨[intss nl xss, ints nl' l, .junk, .junk, .junk, int (peTo xss l i), .junk, .junk, .junk, .junk, .junk, .junk, .junk, int xss.length, int i, .junk, .junk, .junk, .junk, .junk, .junk, .junk, .junk, .junk, .junk, .junk, .junk, .junk, .junk, .junk, .junk, .junk, .junk, .junk, .junk, .junk, .junk, .junk], []⟩) ?_ (by simp [sub, slotsLe, clean, keep, refsL, refs, once, place, renL, ren, List.replicate, int, bool, intss, ints, peTo]) ?_ ?_ ?_
    · omega
    · trivial
    · intro i hi _ hwi
      simp (config := {contextual := true}) [List.range, List.range.loop, ints, intss, int, bool, row, frac, fracs, ← List.map_take, ← List.map_drop, hi, hwi]
      refine awp_range (live := [true, true, false, false, true, true, true, true, false, false, false, true, false, true, true, true, false, false, true, true, true]) (ctx_ok eqOk hG) mixed [true, true, false, false, false, true, true, false, false, false, false, false, false, true, true, false, false, false, true, true] (xss.length) (fun k => True) (fun k => ⟨[intss nl xss, ints nl' l, .junk, .junk, .junk, int (peRow xss l i (peTo xss l i) k), int i, .junk, .junk, .junk, .junk, .junk, .junk, int xss.length, int i, .junk, .junk, .junk, int xss.length, int k, .junk, .junk, .junk, .junk, .junk, .junk, .junk, .junk, .junk, .junk, .junk, .junk, .junk, .junk, .junk, .junk, .junk, .junk], []⟩) ?_ (by simp [sub, slotsLe, clean, keep, refsL, refs, once, place, renL, ren, List.replicate, int, bool, intss, ints, peRow]) ?_ ?_ ?_
      · omega
      · trivial
      · intro k hk _ hwk
        have z1 := mWorth_at nl xss nl' l i k (wo_pre h1 (by omega) hi)
        have z2 := mWorth_at nl xss nl' l i i (wo_pre h1 (by omega) hi)
        have hn := peRow_nn (xss := xss) (l := l) (i := i) (peTo_nn (xss := xss) (l := l) i) k
        simp (config := {contextual := true}) [List.range, List.range.loop, ints, intss, int, bool, row, frac, fracs, ← List.map_take, ← List.map_drop, hk, hwk, z1, z2, peRow, envD]
        try omega
      · intro _
        simp (config := {contextual := true}) [List.range, List.range.loop, ints, intss, int, bool, row, frac, fracs, ← List.map_take, ← List.map_drop, hi, hwi, peTo]
    · intro _
      simp (config := {contextual := true}) [List.range, List.range.loop, ints, intss, int, bool, row, frac, fracs, ← List.map_take, ← List.map_drop]

end Go.Proofs.Ytakladjlnkojjaa.Ax

/-
  Contracts: RankingOk (both programs). No condition.
-/
namespace Go.Proofs.Ytakladjlnkojjaa.Ax
open Go Go.RowKit
set_option linter.unusedSimpArgs false

/-- Number k of the list is a candidate of m who was not met before. -/
def rankAt (m : Int) (l : List Int) (k : Nat) : Bool := inR 0 (m - 1) (l.getD k 0) && !decide (0 ≤ pos (l.take k) (l.getD k 0))
def rankB (m : Int) (l : List Int) : Bool := inR 1 5 m && decide (l.length = m) && allR l.length (rankAt m l)

noncomputable def mRank : List AV → Option AV := mk (fun _ => True) (fun (p : (Int) × (Bool) × (List Int)) => [int p.1, ints p.2.1 p.2.2]) (fun p => bool (rankB p.1 p.2.2))
theorem mRank_at (m : Int) (nl : Bool) (l : List Int) : mRank [.v (.int .i64 m), .sl nl 1 (l.map int)] = some (.v (.bool (rankB m l))) :=
  mk_eq (enc := fun (p : (Int) × (Bool) × (List Int)) => [int p.1, ints p.2.1 p.2.2]) (x := (m, nl, l)) (by rintro ⟨a0, a1, a2⟩ ⟨b0, b1, b2⟩ h; simp [ints, intss, int, bool, row, frac, fracs, map_int_inj, map_row_inj, frac_inj, map_frac_inj] at h; simp [h]) trivial

theorem rankAt_at {m : Int} {l : List Int} {k : Nat} (h : k < l.length) : rankAt m l k = (inR 0 (m - 1) l[k] && !decide (0 ≤ pos (l.take k) l[k])) := by unfold rankAt; rw [getD_at h]

end Go.Proofs.Ytakladjlnkojjaa.Ax

/-
  Contracts: comparisons of fractions (both programs); a ranking names every candidate. No condition.
-/
namespace Go.Proofs.Ytakladjlnkojjaa.Ax
open Go Go.RowKit
set_option linter.unusedSimpArgs false

def cmpI (x y : Int) : Int := if x < y then -1 else if y < x then 1 else 0
noncomputable def mCmpI : List AV → Option AV := mk (fun _ => True) (fun (p : (Int) × (Int)) => [int p.1, int p.2]) (fun p => int (cmpI p.1 p.2))
theorem mCmpI_at (x : Int) (y : Int) : mCmpI [.v (.int .i64 x), .v (.int .i64 y)] = some (.v (.int .i64 (cmpI x y))) :=
  mk_eq (enc := fun (p : (Int) × (Int)) => [int p.1, int p.2]) (x := (x, y)) (by rintro ⟨a0, a1⟩ ⟨b0, b1⟩ h; simp [ints, intss, int, bool, row, frac, fracs, map_int_inj, map_row_inj, frac_inj, map_frac_inj] at h; simp [h]) trivial
noncomputable def mNaN : List AV → Option AV := mk (fun _ => True) (fun (p : (Int)) => [int p]) (fun _ => bool false)
theorem mNaN_at (x : Int) : mNaN [.v (.int .i64 x)] = some (.v (.bool false)) :=
  mk_eq (enc := fun (p : (Int)) => [int p]) (x := (x)) (by rintro a0 b0 h; simp [ints, intss, int, bool, row, frac, fracs, map_int_inj, map_row_inj, frac_inj, map_frac_inj] at h; simp [h]) trivial
theorem isNaN_ok : FnOk Try.prog 99 mNaN := by
  refine mk_ok fun x _ => ?_
  have hG : FnsOk Try.prog [] := .nil
  refine callOk_awp (ctx_ok eqOk hG) mixed (live := [true, false, true]) (dt := []) Try.func99 rfl (by kernel_rfl) (by kernel_rfl) fun w0 hlens => ?_
  simp [Try.f99, List.range, List.range.loop, ints, intss, int, bool, row, frac, fracs, ← List.map_take, ← List.map_drop]
set_option maxHeartbeats 1000000 in
theorem cmpCompare_ok : FnOk Try.prog 93 mCmpI := by
  refine mk_ok fun ⟨x, y⟩ _ => ?_
  have hG : FnsOk Try.prog [(99, mNaN)] := (.cons isNaN_ok .nil)
  refine callOk_awp (ctx_ok eqOk hG) mixed (live := [true, true, false, false, true, true, true, false, false, false, false, true, true, true, false, false, true, false, false, true]) (dt := []) Try.func93 rfl (by kernel_rfl) (by kernel_rfl) fun w0 hlens => ?_
  by_cases h1 : x < y
  · simp [Try.f93, List.range, List.range.loop, ints, intss, int, bool, row, frac, fracs, ← List.map_take, ← List.map_drop, mNaN_at, h1, cmpI]
  · by_cases h2 : y < x <;> simp [Try.f93, List.range, List.range.loop, ints, intss, int, bool, row, frac, fracs, ← List.map_take, ← List.map_drop, mNaN_at, h1, h2, cmpI]

noncomputable def mCmpF : List AV → Option AV := mk (fun _ => True) (fun (p : (Int) × (Int) × (Int) × (Int)) => [frac (p.1, p.2.1), frac (p.2.2.1, p.2.2.2)]) (fun p => int (cmpF (p.1, p.2.1) (p.2.2.1, p.2.2.2)))
theorem mCmpF_at (a : Int) (b : Int) (c : Int) (d : Int) : mCmpF [.agg [.v (.int .i64 a), .v (.int .i64 b)], .agg [.v (.int .i64 c), .v (.int .i64 d)]] = some (.v (.int .i64 (cmpF (a, b) (c, d)))) :=
  mk_eq (enc := fun (p : (Int) × (Int) × (Int) × (Int)) => [frac (p.1, p.2.1), frac (p.2.2.1, p.2.2.2)]) (x := (a, b, c, d)) (by rintro ⟨a0, a1, a2, a3⟩ ⟨b0, b1, b2, b3⟩ h; simp [ints, intss, int, bool, row, frac, fracs, map_int_inj, map_row_inj, frac_inj, map_frac_inj] at h; simp [h]) trivial
noncomputable def mLessF : List AV → Option AV := mk (fun _ => True) (fun (p : (Int) × (Int) × (Int) × (Int)) => [frac (p.1, p.2.1), frac (p.2.2.1, p.2.2.2)]) (fun p => bool (decide (cmpF (p.1, p.2.1) (p.2.2.1, p.2.2.2) = -1)))
theorem mLessF_at (a : Int) (b : Int) (c : Int) (d : Int) : mLessF [.agg [.v (.int .i64 a), .v (.int .i64 b)], .agg [.v (.int .i64 c), .v (.int .i64 d)]] = some (.v (.bool (decide (cmpF (a, b) (c, d) = -1)))) :=
  mk_eq (enc := fun (p : (Int) × (Int) × (Int) × (Int)) => [frac (p.1, p.2.1), frac (p.2.2.1, p.2.2.2)]) (x := (a, b, c, d)) (by rintro ⟨a0, a1, a2, a3⟩ ⟨b0, b1, b2, b3⟩ h; simp [ints, intss, int, bool, row, frac, fracs, map_int_inj, map_row_inj, frac_inj, map_frac_inj] at h; simp [h]) trivial
theorem addF_frac {x y : Int × Int} (h : (addF x y).2 = true) : fracOk (addF x y).1 = true ∧ fracOk x = true ∧ fracOk y = true := by
  unfold addF mkF at h ⊢
  split
  · rename_i h1
    rw [if_pos h1] at h
    simp only [Bool.and_eq_true] at h1
    split
    · rename_i h2; exact ⟨h2, h1.1, h1.2⟩
    · rename_i h2; rw [if_neg h2] at h; simp at h
  · rename_i h1; rw [if_neg h1] at h; simp at h
theorem cmpF_neg {x y : Int × Int} (hx : fracOk x = true) (hy : fracOk y = true) : cmpF x y < 0 ↔ cmpF x y = -1 := by
  unfold cmpF; rw [hx, hy]
  simp only [Bool.and_true, if_true]
  split
  · simp
  · split <;> simp

theorem nodup_le : ∀ {L M : List Nat}, L.Nodup → (∀ x ∈ L, x ∈ M) → L.length ≤ M.length
  | [], _, _, _ => by simp
  | x :: L, M, h, hs => by
    rw [List.nodup_cons] at h
    have hx := hs x (by simp)
    have := nodup_le (L := L) (M := M.erase x) h.2 fun y hy => (List.mem_erase_of_ne (fun (e : y = x) => h.1 (by rw [← e]; exact hy))).2 (hs y (by simp [hy]))
    rw [List.length_erase_of_mem hx] at this
    have hp := List.length_pos_of_mem hx
    simp only [List.length_cons]; omega

theorem posFrom_iff {v : Int} : ∀ {xs : List Int} {k : Nat}, 0 ≤ posFrom v xs k ↔ v ∈ xs
  | [], k => by simp [posFrom]
  | x :: xs, k => by
    rw [posFrom]
    by_cases e : x = v
    · rw [if_pos e]; subst e; simp
    · rw [if_neg e, posFrom_iff, List.mem_cons]; exact ⟨.inr, fun h => h.resolve_left fun e' => e e'.symm⟩
theorem pos_iff {v : Int} {xs : List Int} : 0 ≤ pos xs v ↔ v ∈ xs := posFrom_iff

/-- What a valid ranking is. -/
theorem rank_facts {m : Int} {l : List Int} (h : rankB m l = true) : 1 ≤ m ∧ m ≤ 5 ∧ (l.length : Int) = m ∧ (∀ i (hi : i < l.length), 0 ≤ l[i] ∧ l[i] < m) ∧ l.Nodup := by
  simp only [rankB, Bool.and_eq_true, decide_eq_true_eq, inR] at h
  obtain ⟨⟨⟨h1, h2⟩, h3⟩, h4⟩ := h
  have hat : ∀ i (hi : i < l.length), (0 ≤ l[i] ∧ l[i] < m) ∧ l[i] ∉ l.take i := fun i hi => by
    have := List.all_eq_true.1 h4 i (by simpa using hi)
    rw [rankAt_at hi] at this
    simp only [Bool.and_eq_true, inR, decide_eq_true_eq, Bool.not_eq_true', decide_eq_false_iff_not, pos_iff] at this
    exact ⟨⟨this.1.1, by omega⟩, this.2⟩
  refine ⟨h1, h2, h3, fun i hi => (hat i hi).1, ?_⟩
  rw [List.nodup_iff_pairwise_ne, List.pairwise_iff_getElem]
  intro i j hi hj hij e
  exact (hat j hj).2 (List.mem_iff_getElem.2 ⟨i, by simp; omega, by rw [List.getElem_take]; exact e⟩)
/-- A ranking names every candidate. -/
theorem rank_all {m : Int} {l : List Int} (h : rankB m l = true) {i : Nat} (hi : (i : Int) < m) : ∃ k, ∃ hk : k < l.length, l[k] = i := by
  obtain ⟨h1, h2, h3, h4, h5⟩ := rank_facts h
  apply Classical.byContradiction
  intro hno
  have hin : ∀ x ∈ l, 0 ≤ x ∧ x < m := fun x hx => by
    obtain ⟨j, hj, rfl⟩ := List.getElem_of_mem hx; exact h4 j hj
  have hni : (i : Int) ∉ l := fun hx => by
    obtain ⟨j, hj, e⟩ := List.getElem_of_mem hx; exact hno ⟨j, hj, e⟩
  have hnd : (i :: l.map Int.toNat).Nodup := by
    rw [List.nodup_cons]
    refine ⟨fun hx => ?_, ?_⟩
    · obtain ⟨x, hx, e⟩ := List.mem_map.1 hx
      have := hin x hx
      exact hni (by rw [← e, Int.toNat_of_nonneg this.1]; exact hx)
    · rw [List.nodup_iff_pairwise_ne, List.pairwise_map]
      rw [List.nodup_iff_pairwise_ne] at h5
      refine List.Pairwise.imp_of_mem (fun {a b} ha hb hab e => hab ?_) h5
      have := hin a ha; have := hin b hb; omega
  have := nodup_le (M := List.range l.length) hnd fun x hx => by
    rw [List.mem_range]
    rcases List.mem_cons.1 hx with rfl | hx
    · omega
    · obtain ⟨y, hy, rfl⟩ := List.mem_map.1 hx
      have := hin y hy; omega
  simp at this
  omega

end Go.Proofs.Ytakladjlnkojjaa.Ax

/-
  The plain law of TransferOrder: an insertion from the right and one from the left put a number at the same place. No condition.
-/
namespace Go.Proofs.Ytakladjlnkojjaa.Ax
open Go Go.RowKit
set_option linter.unusedSimpArgs false

section
variable {c : Int → Int → Int} {le : Int → Int → Prop} {D : Int → Prop}

/-- Where x is put in, by the numbers that may stand ahead of it. -/
theorem ins_split (hc : ∀ x y, D x → D y → (c x y < 0 ↔ ¬ le y x)) (htr : ∀ x y z, D x → D y → D z → le x y → le y z → le x z) {ys : List Int} {x : Int} {k : Nat} (hD : ∀ y ∈ ys, D y) (hx : D x) (hs : ys.Pairwise le) (hk : k ≤ ys.length)
    (h1 : ∀ i (h : i < ys.length), i < k → le ys[i] x) (h2 : k = ys.length ∨ ∃ h : k < ys.length, ¬ le ys[k] x) : ins c ys x = ys.take k ++ x :: ys.drop k := by
  have key : ∀ m, k ≤ m → m ≤ ys.length → insFrom c ys x m = ys.take k ++ x :: ys.drop k := by
    intro m
    induction m with
    | zero => intro hkm _; obtain rfl : k = 0 := by omega
              simp [insFrom]
    | succ m ih =>
      intro hkm hml
      have hml' : m < ys.length := by omega
      have hg : ys.getD m 0 = ys[m] := by simp [List.getD_eq_getElem?_getD, hml']
      have hDm : D ys[m] := hD _ (List.getElem_mem _)
      by_cases e : k = m + 1
      · subst e
        have hle := h1 m hml' (by omega)
        rw [insFrom, hg, if_neg (fun h => ((hc x ys[m] hx hDm).1 h) hle)]
      · rw [insFrom, hg, if_pos, ih (by omega) (by omega)]
        refine (hc x ys[m] hx hDm).2 fun hle => ?_
        rcases h2 with h2 | ⟨hkl, h2⟩
        · omega
        · by_cases e2 : k = m
          · subst e2; exact h2 hle
          · exact h2 (htr _ _ _ (hD _ (List.getElem_mem _)) hDm hx (List.pairwise_iff_getElem.1 hs k m hkl hml' (by omega)) hle)
  exact key ys.length hk (Nat.le_refl _)

theorem split_at (le : Int → Int → Prop) (x : Int) : ∀ ys : List Int, ∃ k, k ≤ ys.length ∧ (∀ i (h : i < ys.length), i < k → le ys[i] x) ∧ (k = ys.length ∨ ∃ h : k < ys.length, ¬ le ys[k] x)
  | [] => ⟨0, by simp, fun i h => by simp at h, .inl rfl⟩
  | y :: ys => by
    by_cases hy : le y x
    · obtain ⟨k, h1, h2, h3⟩ := split_at le x ys
      refine ⟨k + 1, by simpa using h1, fun i h hi => ?_, ?_⟩
      · cases i with
        | zero => exact hy
        | succ i => exact h2 i (by simpa using h) (by omega)
      · rcases h3 with h3 | ⟨h3, h4⟩
        · left; simp [h3]
        · right; exact ⟨by simpa using h3, h4⟩
    · exact ⟨0, by simp, fun i _ hi => by omega, .inr ⟨by simp, hy⟩⟩

theorem ins_sorted (hc : ∀ x y, D x → D y → (c x y < 0 ↔ ¬ le y x)) (htr : ∀ x y z, D x → D y → D z → le x y → le y z → le x z) (hto : ∀ x y, D x → D y → ¬ le y x → le x y) {ys : List Int} {x : Int} (hD : ∀ y ∈ ys, D y) (hx : D x) (hs : ys.Pairwise le) : (ins c ys x).Pairwise le := by
  obtain ⟨k, h1, h2, h3⟩ := split_at le x ys
  rw [ins_split hc htr hD hx hs h1 h2 h3]
  have hkey : ∀ j (h : j < ys.length), k ≤ j → le x ys[j] := fun j hj hkj => by
    rcases h3 with h3 | ⟨hkl, h3⟩
    · omega
    · have hxk := hto _ _ hx (hD _ (List.getElem_mem hkl)) h3
      by_cases e : k = j
      · subst e; exact hxk
      · exact htr _ _ _ hx (hD _ (List.getElem_mem hkl)) (hD _ (List.getElem_mem hj)) hxk (List.pairwise_iff_getElem.1 hs k j hkl hj (by omega))
  rw [List.pairwise_append, List.pairwise_cons]
  refine ⟨hs.take, ⟨fun y hy => ?_, hs.drop⟩, fun a ha b hb => ?_⟩
  · obtain ⟨i, hi, rfl⟩ := List.getElem_of_mem hy
    rw [List.getElem_drop]
    exact hkey _ _ (by omega)
  · obtain ⟨i, hi, rfl⟩ := List.getElem_of_mem ha
    rw [List.getElem_take]
    have hik : i < k := by simp at hi; omega
    have hil : i < ys.length := by omega
    rcases List.mem_cons.1 hb with rfl | hb
    · exact h2 i hil hik
    · obtain ⟨j, hj, rfl⟩ := List.getElem_of_mem hb
      rw [List.getElem_drop]
      exact List.pairwise_iff_getElem.1 hs i (k + j) hil (by simp at hj; omega) (by omega)

theorem isort_sorted (hc : ∀ x y, D x → D y → (c x y < 0 ↔ ¬ le y x)) (htr : ∀ x y z, D x → D y → D z → le x y → le y z → le x z) (hto : ∀ x y, D x → D y → ¬ le y x → le x y) (xs : List Int) (hD : ∀ y ∈ xs, D y) : (isort c xs).Pairwise le := by
  unfold isort
  suffices h : ∀ (xs ys : List Int), (∀ y ∈ xs, D y) → (∀ y ∈ ys, D y) → ys.Pairwise le → (xs.foldl (ins c) ys).Pairwise le from h xs [] hD (by simp) .nil
  intro xs
  induction xs with
  | nil => intro ys _ _ h; exact h
  | cons x xs ih =>
    intro ys h1 h2 h3
    refine ih _ (fun y hy => h1 y (by simp [hy])) (fun y hy => ?_) (ins_sorted hc htr hto h2 (h1 x (by simp)) h3)
    rcases mem_insFrom.1 hy with rfl | hy
    · exact h1 _ (by simp)
    · exact h2 y hy
end

/-- Quotients compared; one by 0 is greater than all others. -/
def cmpR (a b c d : Int) : Int := if b = 0 ∨ d = 0 then IntKind.i64.wrap (cmpI d 0 - cmpI b 0) else cmpI (a * d) (c * b)
def ratC (u v : List Int) (x y : Int) : Int := cmpR (at0 u x.toNat) (at0 v x.toNat) (at0 u y.toNat) (at0 v y.toNat)
def leR (u v : List Int) (x y : Int) : Prop := at0 u x.toNat * at0 v y.toNat ≤ at0 u y.toNat * at0 v x.toNat
instance {u v : List Int} {x y : Int} : Decidable (leR u v x y) := by unfold leR; infer_instance
/-- Of the things of which one heir has a point at least. -/
def domR (u v : List Int) (x : Int) : Prop := 0 ≤ at0 u x.toNat ∧ 0 ≤ at0 v x.toNat ∧ 0 < at0 u x.toNat + at0 v x.toNat

theorem cmpI_neg {x y : Int} : cmpI x y < 0 ↔ x < y := by unfold cmpI; split <;> (try split) <;> omega
theorem ratC_neg {u v : List Int} {x y : Int} (hx : domR u v x) (hy : domR u v y) : ratC u v x y < 0 ↔ ¬ leR u v y x := by
  unfold ratC leR cmpR
  obtain ⟨a0, a1, a2⟩ := hx
  obtain ⟨b0, b1, b2⟩ := hy
  generalize at0 u x.toNat = a at *
  generalize at0 v x.toNat = b at *
  generalize at0 u y.toNat = c at *
  generalize at0 v y.toNat = d at *
  split
  · rename_i h
    have w1 : IntKind.i64.wrap (cmpI d 0 - cmpI b 0) = cmpI d 0 - cmpI b 0 := by
      unfold cmpI
      split <;> (try split) <;> (try split) <;> (try split) <;> exact wrapI (by omega) (by omega)
    rw [w1]
    by_cases hb : b = 0
    · subst hb
      by_cases hd : d = 0
      · subst hd; simp [cmpI]
      · have : 0 < d := by omega
        have h1 : ¬ d < 0 := by omega
        have hm : 0 ≤ a * d := Int.mul_nonneg a0 b1
        simp [cmpI, h1, this, hm]
    · obtain rfl : d = 0 := h.resolve_left hb
      have hb' : 0 < b := by omega
      have h1 : ¬ b < 0 := by omega
      have hc : 0 < c := by omega
      have := Int.mul_pos hc hb'
      simp [cmpI, h1, hb']
      omega
  · rw [cmpI_neg]; omega
theorem leR_trans {u v : List Int} {x y z : Int} (hx : domR u v x) (hy : domR u v y) (hz : domR u v z) (h1 : leR u v x y) (h2 : leR u v y z) : leR u v x z := by
  unfold leR at *
  obtain ⟨a0, a1, a2⟩ := hx
  obtain ⟨b0, b1, b2⟩ := hy
  obtain ⟨c0, c1, c2⟩ := hz
  generalize at0 u x.toNat = a at *
  generalize at0 v x.toNat = b at *
  generalize at0 u y.toNat = c at *
  generalize at0 v y.toNat = d at *
  generalize at0 u z.toNat = e at *
  generalize at0 v z.toNat = f at *
  by_cases hd : d = 0
  · subst hd
    have hc : 0 < c := by omega
    have hf : f = 0 := by
      have : c * f ≤ 0 := by simpa using h2
      rcases Int.lt_or_le 0 f with h | h
      · have := Int.mul_pos hc h; omega
      · omega
    subst hf
    have := Int.mul_nonneg c0 a1
    simpa using this
  · have hd' : 0 < d := by omega
    have k1 : a * d * f ≤ c * b * f := Int.mul_le_mul_of_nonneg_right h1 c1
    have k2 : c * f * b ≤ e * d * b := Int.mul_le_mul_of_nonneg_right h2 a1
    have k3 : (a * f) * d ≤ (e * b) * d := by
      have e1 : a * f * d = a * d * f := by rw [Int.mul_right_comm]
      have e2 : c * b * f = c * f * b := by rw [Int.mul_right_comm]
      have e3 : e * d * b = e * b * d := by rw [Int.mul_right_comm]
      omega
    exact Int.le_of_mul_le_mul_right k3 hd'
theorem leR_total {u v : List Int} {x y : Int} (h : ¬ leR u v y x) : leR u v x y := by unfold leR at *; omega

/-- The things that are chosen, up to k. -/
def selTo (p : Nat → Bool) (k : Nat) : List Int := ((List.range k).filter p).map fun (i : Nat) => (i : Int)
theorem selTo_zero {p : Nat → Bool} : selTo p 0 = [] := rfl
theorem selTo_yes {p : Nat → Bool} {k : Nat} (h : p k = true) : selTo p (k + 1) = selTo p k ++ [(k : Int)] := by simp [selTo, List.range_succ, List.filter_append, h]
theorem selTo_no {p : Nat → Bool} {k : Nat} (h : p k = false) : selTo p (k + 1) = selTo p k := by simp [selTo, List.range_succ, List.filter_append, h]
theorem selTo_len {p : Nat → Bool} {k : Nat} : (selTo p k).length ≤ k := by
  unfold selTo
  rw [List.length_map]
  exact Nat.le_trans (List.length_filter_le _ _) (by simp)
theorem selTo_mem {p : Nat → Bool} {k : Nat} {x : Int} (h : x ∈ selTo p k) : ∃ i : Nat, x = i ∧ i < k ∧ p i = true := by
  simp only [selTo, List.mem_map, List.mem_filter, List.mem_range] at h
  obtain ⟨i, ⟨h1, h2⟩, rfl⟩ := h
  exact ⟨i, rfl, h1, h2⟩

/-- Whether heir 'from' has thing k first, and one of the two has a point for it. -/
def selB (r0 r1 : List Int) (fr : Int) (k : Nat) : Bool := decide ((if at0 r1 k ≤ at0 r0 k then (1 : Int) else 0) = 1 - fr) && decide (0 < at0 r0 k + at0 r1 k)
def tOrd (xss : List (Bool × List Int)) (fr : Int) : List Int := match xss with
  | [r0, r1] => if pointsB xss = true ∧ 0 ≤ fr ∧ fr ≤ 1 then isort (if fr = 0 then ratC r0.2 r1.2 else ratC r1.2 r0.2) (selTo (selB r0.2 r1.2 fr) r0.2.length) else []
  | _ => []
theorem tOrd_no {xss : List (Bool × List Int)} {fr : Int} (h : ¬ (pointsB xss = true ∧ 0 ≤ fr ∧ fr ≤ 1)) : tOrd xss fr = [] := by
  unfold tOrd; split
  · rw [if_neg h]
  · rfl
theorem tOrd_len {xss : List (Bool × List Int)} {fr : Int} : (tOrd xss fr).length ≤ 6 := by
  unfold tOrd
  split
  · rename_i r0 r1
    split
    · rename_i h
      have h1 := rect_len (points_facts h.1).2
      have h2 := selTo_len (p := selB r0.2 r1.2 fr) (k := r0.2.length)
      rw [isort_len]
      simp only [wid, List.headD_cons] at h1
      omega
    · simp
  · simp

end Go.Proofs.Ytakladjlnkojjaa.Ax

/-
  Contracts: slices.Delete over ints: the row is handed over, what is left comes back. No condition.
-/
namespace Go.Proofs
open Go.Shelf
def Try.laysDel_ren : Go.Shelf.Ren := ⟨fun | 45 => 76 | n => n, fun | 22 => 25 | 23 => 3 | 3 => 3 | 4 => 4 | 0 => 0 | n => n, fun | n => n⟩
theorem Try.laysDel : Go.Proofs.SlLaysE.n45 Try.prog Try.laysDel_ren := {
  mixed := by kernel_rfl
  f45 := ⟨Try.f76.name, by decide, Try.func76.trans (congrArg some (by kernel_rfl))⟩
  t0 := Try.underlying0
  a0 := Try.isAgg0
  z0 := Try.sizeOf0
  v0 := Try.zeroValue0
  t3 := Try.underlying3
  a3 := Try.isAgg3
  z3 := Try.sizeOf3
  v3 := Try.zeroValue3
  t4 := Try.underlying4
  a4 := Try.isAgg4
  z4 := Try.sizeOf4
  v4 := Try.zeroValue4
  t22 := Try.underlying25
  a22 := Try.isAgg25
  z22 := Try.sizeOf25
  v22 := Try.zeroValue25
  a23 := Try.isAgg3
  z23 := Try.sizeOf3 }
end Go.Proofs
namespace Go.Proofs.Ytakladjlnkojjaa.Ax
open Go Go.RowKit Go.Sort
set_option linter.unusedSimpArgs false

theorem frozen_cells {w : World} {b : Nat} {cs : Array Value} {T : TypeId} (h : w.heap[b]? = some (.cells cs T (0, 0))) (o : Nat) : w.frozen? ⟨b, o, none⟩ = false := by
  simp [World.frozen?, h]

theorem ownRow_ints {w : World} {d : Bool} {F S : Nat → Prop} {b : Nat} : ∀ {xs : List Int} {o : Nat}, OwnRow w d F S b 1 o (xs.map int) → ∀ (j : Nat) (x : Int), xs[j]? = some x → w.cell? ⟨b, o + j, none⟩ = some (.int .i64 x)
  | xs, o, h, j, x, hj => by
    obtain ⟨y, h1, h2, _, h4⟩ := OwnRow.get h j (int x) (by rw [List.getElem?_map, hj]; rfl)
    simp only [Own, int] at h1
    obtain ⟨rfl, _⟩ := h1
    have := h4 0 (.int .i64 x) (by rfl)
    simpa using this

theorem ownRow_mk {w : World} {d : Bool} {F S : Nat → Prop} {b : Nat} : ∀ {xs : List Int} {o : Nat}, (∀ (j : Nat) (x : Int), xs[j]? = some x → w.cell? ⟨b, o + j, none⟩ = some (.int .i64 x)) → OwnRow w d F S b 1 o (xs.map int)
  | [], o, h => by simp [OwnRow]
  | x :: xs, o, h => by
    simp only [List.map_cons, OwnRow]
    refine ⟨.int .i64 x, fun _ => False, fun _ => False, fun _ h => h.elim, fun _ h => h.elim, fun _ h => h.elim, by simp [Own, int, Value.oneCell'], rfl, rfl, fun j y hj => ?_, ownRow_mk fun j y hj => ?_⟩
    · cases j with
      | zero => simp [Value.cells] at hj; subst hj; exact h 0 x rfl
      | succ j => simp [Value.cells] at hj
    · have := h (j + 1) y (by simpa using hj)
      rw [show o + (j + 1) = o + 1 + j by omega] at this; exact this

/-- A row of ints of the call's own, as the shelf speaks of it. -/
theorem holds_of {w : World} {F S : Nat → Prop} {b o : Nat} {cs : Array Value} {T : TypeId} {xs : List Int} (hh : w.heap[b]? = some (.cells cs T (0, 0))) (hrow : OwnRow w true F S b 1 o (xs.map int)) : Holds (Value.int .i64) w b o xs.toArray := fun j hj => by
  have hj' : j < xs.length := by simpa using hj
  refine ⟨?_, frozen_cells hh _⟩
  rw [ownRow_ints hrow j xs[j] (List.getElem?_eq_getElem hj')]
  rw [getElem!_pos _ j hj]
  simp

theorem putRow_heap {w : World} {q b o : Nat} {d : Array Int} {k : Nat} (h : k ≠ b) : (putRow (Value.int .i64) (Sort.ahead w q) b o d).heap[k]? = w.heap[k]? := by
  simp only [putRow, mapBlock, Sort.ahead, Array.getElem?_modify]
  rw [if_neg (fun e => h e.symm)]
theorem putRow_own {w : World} {q b o : Nat} {d : Array Int} {cs : Array Value} {T : TypeId} (h : w.heap[b]? = some (.cells cs T (0, 0))) : (putRow (Value.int .i64) (Sort.ahead w q) b o d).heap[b]? = some (.cells (Go.Sort.putCells (Value.int .i64) o d cs) T (0, 0)) := by
  simp only [putRow, mapBlock, Sort.ahead, Array.getElem?_modify, if_true, h, Option.map_some, onCells]

/-- A row of ints that a function of the shelf has put anew: it is the call's own as before. -/
theorem put_mov {w : World} {S : Nat → Prop} {b o cap q : Nat} {cs : Array Value} {T : TypeId} {xs ys zs : List Int} (hSb : S b) (hSl : ∀ b, S b → b < w.heap.size) (hh : w.heap[b]? = some (.cells cs T (0, 0))) (hfit : o + cap * 1 ≤ cs.size) (hH : Holds (Value.int .i64) w b o xs.toArray)
    (hl : ys.length + zs.length = xs.length) (hcap : xs.length ≤ cap) (hcm : cap ≤ maxLen) : ∃ (S' : Nat → Prop), Frm S w (putRow (Value.int .i64) (Sort.ahead w q) b o (ys ++ zs).toArray) ∧ (∀ c, S' c → (S c ∨ w.heap.size ≤ c) ∧ c < (putRow (Value.int .i64) (Sort.ahead w q) b o (ys ++ zs).toArray).heap.size) ∧
      Own (putRow (Value.int .i64) (Sort.ahead w q) b o (ys ++ zs).toArray) true (fun _ => False) S' (.sl false 1 (ys.map int)) (.slice (some ⟨b, o, none⟩) ys.length cap) := by
  have hsz : (putRow (Value.int .i64) (Sort.ahead w q) b o (ys ++ zs).toArray).heap.size = w.heap.size := by rw [size_putRow]; rfl
  have hH' : Holds (Value.int .i64) (Sort.ahead w q) b o xs.toArray := holds_ahead _ w q b o _ hH
  have hH2 := holds_putRow (Value.int .i64) (Sort.ahead w q) b o xs.toArray (ys ++ zs).toArray hH' (by simp; omega)
  refine ⟨S, ⟨rfl, rfl, rfl, by rw [hsz]; exact Nat.le_refl _, fun k _ hk => putRow_heap fun e => hk (e ▸ hSb)⟩, fun c hc => ⟨.inl hc, by rw [hsz]; exact hSl c hc⟩, ?_⟩
  refine Excl.own (S := S) ⟨_, _, cap, rfl, by simp, by omega, hcm, .inr ⟨b, o, _, T, rfl, rfl, hSb, putRow_own hh, by simp only [Go.Sort.putCells, Array.size_mapIdx]; exact hfit, ownRow_mk fun j x hj => ?_⟩⟩
  have hjl := (List.getElem?_eq_some_iff.1 hj).1
  have := (hH2 j (by simp; omega)).1
  rw [this, getElem!_pos _ j (by simp; omega)]
  simp only [List.getElem_toArray]
  rw [List.getElem_append_left hjl]
  rw [(List.getElem?_eq_some_iff.1 hj).2]

noncomputable def mDel : List AV → Option (List Nat × AV) := mkV (fun p => p.2.1 ≤ p.2.2 ∧ p.2.2 ≤ p.1.length) (fun (p : List Int × Nat × Nat) => [ints false p.1, int p.2.1, int p.2.2]) [0] (fun p => ints false (p.1.take p.2.1 ++ p.1.drop p.2.2))
theorem mDel_at (xs : List Int) (i j : Nat) (h : i ≤ j ∧ j ≤ xs.length) : mDel [.sl false 1 (xs.map int), .v (.int .i64 i), .v (.int .i64 j)] = some ([0], .sl false 1 ((xs.take i ++ xs.drop j).map int)) :=
  mkV_eq (enc := fun (p : List Int × Nat × Nat) => [ints false p.1, int p.2.1, int p.2.2]) (x := (xs, i, j)) (by rintro ⟨a, b, c⟩ ⟨d, e, f⟩ h; simp [ints, int, map_int_inj] at h; obtain ⟨rfl, h1, h2⟩ := h; simp only; rw [show b = e by omega, show c = f by omega]) h

set_option maxHeartbeats 1000000 in
theorem delete_ok : FnMov Try.prog 76 mDel := by
  refine mkV_ok fun ⟨xs, i, j⟩ ⟨hij, hj⟩ => ?_
  simp only at hij hj
  refine ⟨⟨_, Try.func76, by kernel_rfl, by kernel_rfl⟩, fun w F S vals hF hS hlen hargs hown => ?_⟩
  have h1 := hargs 1 _ (by simp) rfl
  have h2 := hargs 2 _ (by simp) rfl
  obtain ⟨y1, e1, h1⟩ := h1
  obtain ⟨y2, e2, h2⟩ := h2
  simp only [Rep, int] at h1 h2
  obtain ⟨rfl, _⟩ := h1
  obtain ⟨rfl, _⟩ := h2
  simp only [List.map_cons, List.map_nil, OwnL, List.getD_cons_zero] at hown
  obtain ⟨y0, ys0, S1, S2, e0, hS1, _, _, hown, _⟩ := hown
  have e0' : vals.getD 0 undef = y0 := by
    have := congrArg (fun l : List Value => l.head?) e0
    simpa using this
  obtain ⟨ad, len, cap, hy, l1, l2, l3, l4⟩ := Excl.of_own hown
  rcases l4 with ⟨_, hnl, _⟩ | ⟨b, o, cs, T, rfl, _, hb, hh, hfit, hrow⟩
  · simp at hnl
  have hlx : len = xs.length := by simpa using l1
  subst hlx
  have hvals : vals = #[.slice (some ⟨b, o, none⟩) xs.toArray.size cap, .int .i64 i, .int .i64 j] := by
    apply Array.ext'
    have hsz : vals.toList.length = 3 := by simpa using hlen
    match hv : vals.toList, hsz with
    | [a0, a1, a2], _ =>
      have g0 : vals[0]? = some a0 := by rw [← Array.getElem?_toList, hv]; rfl
      have g1 : vals[1]? = some a1 := by rw [← Array.getElem?_toList, hv]; rfl
      have g2 : vals[2]? = some a2 := by rw [← Array.getElem?_toList, hv]; rfl
      rw [g1] at e1; obtain rfl := Option.some.inj e1
      rw [g2] at e2; obtain rfl := Option.some.inj e2
      rw [Array.getD_eq_getD_getElem?, g0] at e0'
      simp only [Option.getD_some] at e0'
      rw [e0', hy]; simp
  subst hvals
  have hH := holds_of hh hrow
  refine (AnyE.slices_Delete Try.laysDel (Value.int .i64) (fun _ => rfl) 0 (fun w => by kernel_rfl) ((Try.prog.info? 3).get (by kernel_rfl)) (by kernel_rfl) (by kernel_rfl) b o cap i j xs.toArray w hH (by simpa using l2) (by simpa [maxLen] using l3) hij (by simpa using hj)).mono fun e w' h => ?_
  obtain ⟨rfl, q, rfl⟩ := h
  have hl : (xs.take i ++ xs.drop j).length = xs.toArray.size - (j - i) := by simp; omega
  have := put_mov (S := S) (q := q) (ys := xs.take i ++ xs.drop j) (zs := List.replicate (j - i) 0) (hS1 b hb) (fun c hc => (hS c hc).1) hh (by simpa using hfit) hH (by simp; omega) (by simpa using l2) l3
  obtain ⟨S', k1, k2, k3⟩ := this
  refine ⟨_, S', rfl, k1, k2, ?_⟩
  rw [hl] at k3
  exact k3

end Go.Proofs.Ytakladjlnkojjaa.Ax
