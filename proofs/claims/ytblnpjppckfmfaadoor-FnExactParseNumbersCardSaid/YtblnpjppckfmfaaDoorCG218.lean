/-
  A text's words, one after the other. No condition.
-/
import Derived.Test.YtblnpjppckfmfaaDoorCG217
namespace Go.Proofs.YtblnpjppckfmfaaDoor.Ax
open Go Go.RowKit

theorem bl_ex {s : ByteArray} {a b : Nat} : bl (s.extract a b) = ((bl s).take b).drop a := by
  unfold bl
  rw [ByteArray.data_extract, Array.toList_extract, List.extract_eq_take_drop]
  rw [List.drop_take]
theorem sp_none {s : ByteArray} {c : UInt8} : ∀ {i : Nat}, (∀ j, j < i → by1 s j ≠ c.toNat) → spL s c i = [] ∧ spF s c i = 0
  | 0, _ => ⟨rfl, rfl⟩
  | i + 1, h => by
    obtain ⟨h1, h2⟩ := sp_none (s := s) (c := c) (i := i) fun j hj => h j (by omega)
    have := h i (by omega)
    unfold spL spF
    rw [if_neg this, if_neg this]
    exact ⟨h1, h2⟩
theorem ex_all {s : ByteArray} : s.extract 0 s.size = s := by
  apply bl_inj
  rw [bl_ex, List.drop_zero, List.take_of_length_le (by rw [bl_size]; exact Nat.le_refl _)]
theorem split_none {s : ByteArray} {c : UInt8} (h : ∀ j, j < s.size → by1 s j ≠ c.toNat) : splitS s c = [s] := by
  obtain ⟨h1, h2⟩ := sp_none (s := s) (c := c) (i := s.size) h
  unfold splitS
  rw [h1, h2, ex_all]; rfl
theorem sp_some {s : ByteArray} {c : UInt8} {j : Nat} (hj : j < s.size) (hc : by1 s j = c.toNat) (h : ∀ i, i < j → by1 s i ≠ c.toNat) : ∀ {i : Nat}, j + 1 + i ≤ s.size →
    spL s c (j + 1 + i) = s.extract 0 j :: spL (s.extract (j + 1) s.size) c i ∧ spF s c (j + 1 + i) = j + 1 + spF (s.extract (j + 1) s.size) c i := by
  intro i
  induction i with
  | zero =>
    intro _
    obtain ⟨h1, h2⟩ := sp_none (s := s) (c := c) (i := j) h
    simp only [Nat.add_zero, spL, spF]
    rw [if_pos hc, if_pos hc, h1, h2]
    exact ⟨rfl, rfl⟩
  | succ i ih =>
    intro hi
    obtain ⟨h1, h2⟩ := ih (by omega)
    have hb : by1 (s.extract (j + 1) s.size) i = by1 s (j + 1 + i) := by
      rw [by1_bl, by1_bl, bl_ex, List.getElem?_drop, List.getElem?_take, if_pos (by omega)]
    have he : (s.extract (j + 1) s.size).extract (spF (s.extract (j + 1) s.size) c i) i = s.extract (j + 1 + spF (s.extract (j + 1) s.size) c i) (j + 1 + i) := by
      apply bl_inj
      rw [bl_ex, bl_ex, bl_ex]
      rw [List.take_of_length_le (l := bl s) (by rw [bl_size]; exact Nat.le_refl _), List.take_drop, List.drop_drop]
    rw [show j + 1 + (i + 1) = (j + 1 + i) + 1 by omega]
    simp only [spL, spF]
    rw [hb, h1, h2, he]
    split
    · exact ⟨rfl, by omega⟩
    · exact ⟨rfl, rfl⟩
theorem split_some {s : ByteArray} {c : UInt8} {j : Nat} (hj : j < s.size) (hc : by1 s j = c.toNat) (h : ∀ i, i < j → by1 s i ≠ c.toNat) : splitS s c = s.extract 0 j :: splitS (s.extract (j + 1) s.size) c := by
  have hsz : (s.extract (j + 1) s.size).size = s.size - (j + 1) := by rw [ByteArray.size_extract]; omega
  obtain ⟨h1, h2⟩ := sp_some hj hc h (i := s.size - (j + 1)) (by omega)
  rw [show j + 1 + (s.size - (j + 1)) = s.size by omega] at h1 h2
  have he : (s.extract (j + 1) s.size).extract (spF (s.extract (j + 1) s.size) c (s.size - (j + 1))) (s.size - (j + 1)) = s.extract (j + 1 + spF (s.extract (j + 1) s.size) c (s.size - (j + 1))) s.size := by
    apply bl_inj
    rw [bl_ex, bl_ex, bl_ex]
    rw [List.take_of_length_le (l := bl s) (by rw [bl_size]; exact Nat.le_refl _), List.take_drop, List.drop_drop, show j + 1 + (s.size - (j + 1)) = s.size by omega, List.take_of_length_le (l := bl s) (by rw [bl_size]; exact Nat.le_refl _)]
  unfold splitS
  rw [hsz, h1, h2, he]; rfl
/-- The next word, by what strings.Index answers. -/
theorem split_idx {s : ByteArray} {c : UInt8} : (Lib.indexByte (bl s) c = -1 ∧ splitS s c = [s]) ∨ ∃ j : Nat, Lib.indexByte (bl s) c = j ∧ j < s.size ∧ splitS s c = s.extract 0 j :: splitS (s.extract (j + 1) s.size) c := by
  rcases idx_facts (l := bl s) (c := c) with ⟨h1, h2⟩ | ⟨j, h1, h2, h3, h4⟩
  · refine .inl ⟨h1, split_none fun j hj e => ?_⟩
    have hj' : j < (bl s).length := by rw [bl_size]; exact hj
    rw [by1_bl, List.getElem?_eq_getElem hj'] at e
    exact h2 _ (List.getElem_mem hj') (UInt8.toNat_inj.1 e)
  · have hj : j < s.size := by rw [← bl_size]; exact h2
    refine .inr ⟨j, h1, hj, split_some hj ?_ fun i hi e => ?_⟩
    · rw [by1_bl, List.getElem?_eq_getElem h2, Option.getD_some, h3]
    · have hi' : i < (bl s).length := by omega
      rw [by1_bl, List.getElem?_eq_getElem hi'] at e
      exact h4 i hi (UInt8.toNat_inj.1 e)

end Go.Proofs.YtblnpjppckfmfaaDoor.Ax
