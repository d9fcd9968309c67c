/-
  PROVED: FnExactMixOf returns true for all arguments, and its arguments read as they did. No condition.
-/
import Derived.Test.YtkfgmpmeipilnaaRows
import Derived.Test.YtkfgmpmeipilnaaCG10
import Derived.Test.YtkfgmpmeipilnaaCLMixOf
namespace Go.Proofs.Ytkfgmpmeipilnaa.Ax
open Go Go.RowKit Go.ChangeShapes Go.WideShapes Go.ChangeAt

theorem lawMixOf : ∀ l, DatL Try.prog Try.f4.params.toList l → CallOk Try.prog 4 l (.v (.bool true)) := by
  intro l h
  rw [Try.params4] at h
  obtain ⟨b0, _, rfl, hb0, b1, _, rfl, hb1, rfl⟩ := h
  obtain ⟨n0, x0, rfl, _⟩ := datTks hb0
  obtain ⟨x1, rfl, _⟩ := hb1.int Try.underlying3
  exact law_MixOf n0 x0 x1

set_option maxRecDepth 100000 in
theorem liftedMixOf (os : Os) (started : os.Started) (H : Type) (enc : TypeId × Value → H) :
    ReturnsInHanded {} Try.checked os 4 .any (Rows.fnExactMixOfSpec.pre6 enc Try.prog Try.f4 Rows.fnExactMixOfRow.domain false) (Rows.fnExactMixOfSpec.post enc Try.prog Try.f4 false true false false) :=
  framed (C := Try.checked) (tb := 4) (started := started) ownP (by kernel_rfl) Try.func4
    (ChangeSpec.witness6 (enc := enc) (C := Try.checked) false ⟨#[], #[.slice none 0 0, .int .i64 0], []⟩ 8 (by kernel_rfl) (by kernel_rfl) (by kernel_rfl) (by kernel_rfl))
    laidOutP (by kernel_rfl) (by kernel_rfl) rfl Try.underlying4 rfl
    (fun ds h => by match ds, h with | [_, _], _ => rfl) (by kernel_rfl) lawMixOf

theorem overMixOf : Rows.fnExactMixOfRow.holds Try.pinned (OpenSpec.ofChange Rows.fnExactMixOfSpec) :=
  OpenClaim.holds_of_wide 4 Try.f4 rfl rfl rfl rfl rfl rfl rfl ⟨rfl, rfl, rfl, rfl, rfl⟩ rfl rfl rfl rfl rfl (by kernel_rfl) Try.func4 (by kernel_rfl)
    (of_decide_eq_true (by kernel_rfl)) (by unfold Func.isWrapper; first | (rw [if_pos (by decide +kernel)]; kernel_rfl) | (rw [if_neg (by decide +kernel)]; exact ⟨rfl, rfl⟩))
    (fun os started H enc _ => liftedMixOf os started H enc)

theorem provedMixOf : Rows.FnExactMixOfSaid := overMixOf
#print axioms provedMixOf
end Go.Proofs.Ytkfgmpmeipilnaa.Ax
