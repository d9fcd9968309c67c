/-
  PROVED: FnExactIsDivision returns true for all arguments, and its arguments read as they did. No condition.
-/
import Derived.Test.YtjfkpgejgfanbaaRows
import Derived.Test.YtjfkpgejgfanbaaT2
import Derived.Test.YtjfkpgejgfanbaaLIsDivision
namespace Go.Proofs.Ytjfkpgejgfanbaa.Ax
open Go Go.RowKit Go.ChangeShapes Go.WideShapes Go.ChangeAt

theorem lawIsDivision : ∀ l, DatL Try.prog Try.f3.params.toList l → CallOk Try.prog 3 l (.v (.bool true)) := by
  intro l h
  rw [Try.params3] at h
  obtain ⟨b0, _, rfl, hb0, b1, _, rfl, hb1, rfl⟩ := h
  obtain ⟨n0, x0, rfl, _⟩ := datIntss hb0
  obtain ⟨n1, x1, rfl, _⟩ := datInts hb1
  exact law_IsDivision n0 x0 n1 x1

set_option maxRecDepth 100000 in
theorem liftedIsDivision (os : Os) (started : os.Started) (H : Type) (enc : TypeId × Value → H) :
    ReturnsInHanded {} Try.checked os 3 .any (Rows.fnExactIsDivisionSpec.pre6 enc Try.prog Try.f3 Rows.fnExactIsDivisionRow.domain false) (Rows.fnExactIsDivisionSpec.post enc Try.prog Try.f3 false true false false) :=
  framed (C := Try.checked) (tb := 4) (started := started) ownP (by kernel_rfl) Try.func3
    (ChangeSpec.witness6 (enc := enc) (C := Try.checked) false ⟨#[], #[.slice none 0 0, .slice none 0 0], []⟩ 8 (by kernel_rfl) (by kernel_rfl) (by kernel_rfl) (by kernel_rfl))
    laidOutP (by kernel_rfl) (by kernel_rfl) rfl Try.underlying4 rfl
    (fun ds h => by match ds, h with | [_, _], _ => rfl) lawIsDivision

theorem overIsDivision : Rows.fnExactIsDivisionRow.holds Try.pinned (OpenSpec.ofChange Rows.fnExactIsDivisionSpec) :=
  OpenClaim.holds_of_wide 3 Try.f3 rfl rfl rfl rfl rfl rfl rfl ⟨rfl, rfl, rfl, rfl, rfl⟩ rfl rfl rfl rfl rfl (by kernel_rfl) Try.func3 (by kernel_rfl)
    (of_decide_eq_true (by kernel_rfl)) (by unfold Func.isWrapper; first | (rw [if_pos (by decide +kernel)]; kernel_rfl) | (rw [if_neg (by decide +kernel)]; exact ⟨rfl, rfl⟩))
    (fun os started H enc _ => liftedIsDivision os started H enc)

theorem provedIsDivision : Rows.FnExactIsDivisionSaid := overIsDivision
#print axioms provedIsDivision
end Go.Proofs.Ytjfkpgejgfanbaa.Ax
