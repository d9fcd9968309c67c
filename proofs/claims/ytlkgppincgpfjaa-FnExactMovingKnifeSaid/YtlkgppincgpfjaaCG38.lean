/-
  Contracts: comparisons of fractions (both programs); a ranking names every candidate. No condition.
-/
import Derived.Test.YtlkgppincgpfjaaCG31
import Derived.Test.YtlkgppincgpfjaaCG32
namespace Go.Proofs.Ytlkgppincgpfjaa.Ax
open Go Go.RowKit
set_option linter.unusedSimpArgs false

def cmpI (x y : Int) : Int := if x < y then -1 else if y < x then 1 else 0
noncomputable def mCmpI : List AV → Option AV := mk (fun _ => True) (fun (p : (Int) × (Int)) => [int p.1, int p.2]) (fun p => int (cmpI p.1 p.2))
theorem mCmpI_at (x : Int) (y : Int) : mCmpI [.v (.int .i64 x), .v (.int .i64 y)] = some (.v (.int .i64 (cmpI x y))) :=
  mk_eq (enc := fun (p : (Int) × (Int)) => [int p.1, int p.2]) (x := (x, y)) (by rintro ⟨a0, a1⟩ ⟨b0, b1⟩ h; simp [ints, intss, int, bool, row, frac, fracs, map_int_inj, map_row_inj, frac_inj, map_frac_inj] at h; simp [h]) trivial
noncomputable def mNaN : List AV → Option AV := mk (fun _ => True) (fun (p : (Int)) => [int p]) (fun _ => bool false)
theorem mNaN_at (x : Int) : mNaN [.v (.int .i64 x)] = some (.v (.bool false)) :=
  mk_eq (enc := fun (p : (Int)) => [int p]) (x := (x)) (by rintro a0 b0 h; simp [ints, intss, int, bool, row, frac, fracs, map_int_inj, map_row_inj, frac_inj, map_frac_inj] at h; simp [h]) trivial
noncomputable def mCmpF : List AV → Option AV := mk (fun _ => True) (fun (p : (Int) × (Int) × (Int) × (Int)) => [frac (p.1, p.2.1), frac (p.2.2.1, p.2.2.2)]) (fun p => int (cmpF (p.1, p.2.1) (p.2.2.1, p.2.2.2)))
theorem mCmpF_at (a : Int) (b : Int) (c : Int) (d : Int) : mCmpF [.agg [.v (.int .i64 a), .v (.int .i64 b)], .agg [.v (.int .i64 c), .v (.int .i64 d)]] = some (.v (.int .i64 (cmpF (a, b) (c, d)))) :=
  mk_eq (enc := fun (p : (Int) × (Int) × (Int) × (Int)) => [frac (p.1, p.2.1), frac (p.2.2.1, p.2.2.2)]) (x := (a, b, c, d)) (by rintro ⟨a0, a1, a2, a3⟩ ⟨b0, b1, b2, b3⟩ h; simp [ints, intss, int, bool, row, frac, fracs, map_int_inj, map_row_inj, frac_inj, map_frac_inj] at h; simp [h]) trivial
noncomputable def mLessF : List AV → Option AV := mk (fun _ => True) (fun (p : (Int) × (Int) × (Int) × (Int)) => [frac (p.1, p.2.1), frac (p.2.2.1, p.2.2.2)]) (fun p => bool (decide (cmpF (p.1, p.2.1) (p.2.2.1, p.2.2.2) = -1)))
theorem mLessF_at (a : Int) (b : Int) (c : Int) (d : Int) : mLessF [.agg [.v (.int .i64 a), .v (.int .i64 b)], .agg [.v (.int .i64 c), .v (.int .i64 d)]] = some (.v (.bool (decide (cmpF (a, b) (c, d) = -1)))) :=
  mk_eq (enc := fun (p : (Int) × (Int) × (Int) × (Int)) => [frac (p.1, p.2.1), frac (p.2.2.1, p.2.2.2)]) (x := (a, b, c, d)) (by rintro ⟨a0, a1, a2, a3⟩ ⟨b0, b1, b2, b3⟩ h; simp [ints, intss, int, bool, row, frac, fracs, map_int_inj, map_row_inj, frac_inj, map_frac_inj] at h; simp [h]) trivial
theorem addF_frac {x y : Int × Int} (h : (addF x y).2 = true) : fracOk (addF x y).1 = true ∧ fracOk x = true ∧ fracOk y = true := by
  unfold addF mkF at h ⊢
  split
  · rename_i h1
    rw [if_pos h1] at h
    simp only [Bool.and_eq_true] at h1
    split
    · rename_i h2; exact ⟨h2, h1.1, h1.2⟩
    · rename_i h2; rw [if_neg h2] at h; simp at h
  · rename_i h1; rw [if_neg h1] at h; simp at h
theorem cmpF_neg {x y : Int × Int} (hx : fracOk x = true) (hy : fracOk y = true) : cmpF x y < 0 ↔ cmpF x y = -1 := by
  unfold cmpF; rw [hx, hy]
  simp only [Bool.and_true, if_true]
  split
  · simp
  · split <;> simp

theorem nodup_le : ∀ {L M : List Nat}, L.Nodup → (∀ x ∈ L, x ∈ M) → L.length ≤ M.length
  | [], _, _, _ => by simp
  | x :: L, M, h, hs => by
    rw [List.nodup_cons] at h
    have hx := hs x (by simp)
    have := nodup_le (L := L) (M := M.erase x) h.2 fun y hy => (List.mem_erase_of_ne (fun (e : y = x) => h.1 (by rw [← e]; exact hy))).2 (hs y (by simp [hy]))
    rw [List.length_erase_of_mem hx] at this
    have hp := List.length_pos_of_mem hx
    simp only [List.length_cons]; omega

theorem posFrom_iff {v : Int} : ∀ {xs : List Int} {k : Nat}, 0 ≤ posFrom v xs k ↔ v ∈ xs
  | [], k => by simp [posFrom]
  | x :: xs, k => by
    rw [posFrom]
    by_cases e : x = v
    · rw [if_pos e]; subst e; simp
    · rw [if_neg e, posFrom_iff, List.mem_cons]; exact ⟨.inr, fun h => h.resolve_left fun e' => e e'.symm⟩
theorem pos_iff {v : Int} {xs : List Int} : 0 ≤ pos xs v ↔ v ∈ xs := posFrom_iff

/-- What a valid ranking is. -/
theorem rank_facts {m : Int} {l : List Int} (h : rankB m l = true) : 1 ≤ m ∧ m ≤ 5 ∧ (l.length : Int) = m ∧ (∀ i (hi : i < l.length), 0 ≤ l[i] ∧ l[i] < m) ∧ l.Nodup := by
  simp only [rankB, Bool.and_eq_true, decide_eq_true_eq, inR] at h
  obtain ⟨⟨⟨h1, h2⟩, h3⟩, h4⟩ := h
  have hat : ∀ i (hi : i < l.length), (0 ≤ l[i] ∧ l[i] < m) ∧ l[i] ∉ l.take i := fun i hi => by
    have := List.all_eq_true.1 h4 i (by simpa using hi)
    rw [rankAt_at hi] at this
    simp only [Bool.and_eq_true, inR, decide_eq_true_eq, Bool.not_eq_true', decide_eq_false_iff_not, pos_iff] at this
    exact ⟨⟨this.1.1, by omega⟩, this.2⟩
  refine ⟨h1, h2, h3, fun i hi => (hat i hi).1, ?_⟩
  rw [List.nodup_iff_pairwise_ne, List.pairwise_iff_getElem]
  intro i j hi hj hij e
  exact (hat j hj).2 (List.mem_iff_getElem.2 ⟨i, by simp; omega, by rw [List.getElem_take]; exact e⟩)
/-- A ranking names every candidate. -/
theorem rank_all {m : Int} {l : List Int} (h : rankB m l = true) {i : Nat} (hi : (i : Int) < m) : ∃ k, ∃ hk : k < l.length, l[k] = i := by
  obtain ⟨h1, h2, h3, h4, h5⟩ := rank_facts h
  apply Classical.byContradiction
  intro hno
  have hin : ∀ x ∈ l, 0 ≤ x ∧ x < m := fun x hx => by
    obtain ⟨j, hj, rfl⟩ := List.getElem_of_mem hx; exact h4 j hj
  have hni : (i : Int) ∉ l := fun hx => by
    obtain ⟨j, hj, e⟩ := List.getElem_of_mem hx; exact hno ⟨j, hj, e⟩
  have hnd : (i :: l.map Int.toNat).Nodup := by
    rw [List.nodup_cons]
    refine ⟨fun hx => ?_, ?_⟩
    · obtain ⟨x, hx, e⟩ := List.mem_map.1 hx
      have := hin x hx
      exact hni (by rw [← e, Int.toNat_of_nonneg this.1]; exact hx)
    · rw [List.nodup_iff_pairwise_ne, List.pairwise_map]
      rw [List.nodup_iff_pairwise_ne] at h5
      refine List.Pairwise.imp_of_mem (fun {a b} ha hb hab e => hab ?_) h5
      have := hin a ha; have := hin b hb; omega
  have := nodup_le (M := List.range l.length) hnd fun x hx => by
    rw [List.mem_range]
    rcases List.mem_cons.1 hx with rfl | hx
    · omega
    · obtain ⟨y, hy, rfl⟩ := List.mem_map.1 hx
      have := hin y hy; omega
  simp at this
  omega

end Go.Proofs.Ytlkgppincgpfjaa.Ax
