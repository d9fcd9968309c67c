/-
  Sizes of the texts of numbers; two texts with a blank between them. Plain Lean, no program in sight.
-/
import Derived.Test.YtblnpjppckfmfaaDoorCG74
namespace Go.Proofs.YtblnpjppckfmfaaDoor.Ax
open Go Go.RowKit
set_option linter.unusedSimpArgs false

theorem inI_small {x : Int} (h : -1000000 ≤ x ∧ x ≤ 1000000) : inI x := by unfold inI; omega

theorem numS_size {xs : List Int} (h : ∀ n ∈ xs, inI n) : (numS xs).size ≤ 21 * xs.length + 1 := by
  unfold numS
  split
  · have : (⟨#[45]⟩ : ByteArray).size = 1 := rfl
    omega
  · have hl := join_len (c := 20) (sep := bl ⟨#[44]⟩) (ws := (xs.map itoaS).map bl) (by
      intro w hw
      simp only [List.map_map, List.mem_map, Function.comp_apply] at hw
      obtain ⟨n, hn, rfl⟩ := hw
      unfold itoaS; rw [bl_mk]
      exact itoa_len (h n hn))
    have e1 : (bl ⟨#[44]⟩).length = 1 := rfl
    rw [List.length_map, List.length_map, e1] at hl
    have e2 : (joinS (xs.map itoaS) ⟨#[44]⟩).size = (bl (joinS (xs.map itoaS) ⟨#[44]⟩)).length := by unfold bl; rw [Array.length_toList]; rfl
    rw [e2]
    unfold joinS
    rw [bl_mk]
    omega

/-- Two texts with a blank between them. -/
def linkS (a b : ByteArray) : ByteArray := a ++ ⟨#[32]⟩ ++ b
theorem link_size {a : ByteArray} : (a ++ (⟨#[32]⟩ : ByteArray)).size = a.size + 1 := by rw [ByteArray.size_append]; rfl

end Go.Proofs.YtblnpjppckfmfaaDoor.Ax
