/-
  PROVED: FnExactMovingKnife returns true for all arguments, and its arguments read as they did. No condition.
-/
import Derived.Test.YtlkgppincgpfjaaRows
import Derived.Test.YtlkgppincgpfjaaCB1
import Derived.Test.YtlkgppincgpfjaaCLMovingKnife
namespace Go.Proofs.Ytlkgppincgpfjaa.Ax
open Go Go.RowKit Go.ChangeShapes Go.WideShapes Go.ChangeAt

theorem lawMovingKnife : ∀ l, DatL Try.prog Try.f4.params.toList l → CallOk Try.prog 4 l (.v (.bool true)) := by
  intro l h
  rw [Try.params4] at h
  obtain ⟨b0, _, rfl, hb0, rfl⟩ := h
  obtain ⟨n0, x0, rfl, _⟩ := datIntss hb0
  exact law_MovingKnife n0 x0

set_option maxRecDepth 100000 in
theorem liftedMovingKnife (os : Os) (started : os.Started) (H : Type) (enc : TypeId × Value → H) :
    ReturnsInHanded {} Try.checked os 4 .any (Rows.fnExactMovingKnifeSpec.pre6 enc Try.prog Try.f4 Rows.fnExactMovingKnifeRow.domain false) (Rows.fnExactMovingKnifeSpec.post enc Try.prog Try.f4 false true false false) :=
  framed (C := Try.checked) (tb := 4) (started := started) ownP (by kernel_rfl) Try.func4
    (ChangeSpec.witness6 (enc := enc) (C := Try.checked) false ⟨#[], #[.slice none 0 0], []⟩ 8 (by kernel_rfl) (by kernel_rfl) (by kernel_rfl) (by kernel_rfl))
    laidOutP (by kernel_rfl) (by kernel_rfl) rfl Try.underlying4 rfl
    (fun ds h => by match ds, h with | [_], _ => rfl) (by kernel_rfl) lawMovingKnife

theorem overMovingKnife : Rows.fnExactMovingKnifeRow.holds Try.pinned (OpenSpec.ofChange Rows.fnExactMovingKnifeSpec) :=
  OpenClaim.holds_of_wide 4 Try.f4 rfl rfl rfl rfl rfl rfl rfl ⟨rfl, rfl, rfl, rfl, rfl⟩ rfl rfl rfl rfl rfl (by kernel_rfl) Try.func4 (by kernel_rfl)
    (of_decide_eq_true (by kernel_rfl)) (by unfold Func.isWrapper; first | (rw [if_pos (by decide +kernel)]; kernel_rfl) | (rw [if_neg (by decide +kernel)]; exact ⟨rfl, rfl⟩))
    (fun os started H enc _ => liftedMovingKnife os started H enc)

theorem provedMovingKnife : Rows.FnExactMovingKnifeSaid := overMovingKnife
#print axioms provedMovingKnife
end Go.Proofs.Ytlkgppincgpfjaa.Ax
