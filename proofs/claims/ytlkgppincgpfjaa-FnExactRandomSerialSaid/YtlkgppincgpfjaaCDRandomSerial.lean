/-
  PROVED: FnExactRandomSerial returns true for all arguments, and its arguments read as they did. No condition.
-/
import Derived.Test.YtlkgppincgpfjaaRows
import Derived.Test.YtlkgppincgpfjaaCB1
import Derived.Test.YtlkgppincgpfjaaCLRandomSerial
namespace Go.Proofs.Ytlkgppincgpfjaa.Ax
open Go Go.RowKit Go.ChangeShapes Go.WideShapes Go.ChangeAt

theorem lawRandomSerial : ∀ l, DatL Try.prog Try.f3.params.toList l → CallOk Try.prog 3 l (.v (.bool true)) := by
  intro l h
  rw [Try.params3] at h
  obtain ⟨b0, _, rfl, hb0, rfl⟩ := h
  obtain ⟨n0, x0, rfl, _⟩ := datIntss hb0
  exact law_RandomSerial n0 x0

set_option maxRecDepth 100000 in
theorem liftedRandomSerial (os : Os) (started : os.Started) (H : Type) (enc : TypeId × Value → H) :
    ReturnsInHanded {} Try.checked os 3 .any (Rows.fnExactRandomSerialSpec.pre6 enc Try.prog Try.f3 Rows.fnExactRandomSerialRow.domain false) (Rows.fnExactRandomSerialSpec.post enc Try.prog Try.f3 false true false false) :=
  framed (C := Try.checked) (tb := 4) (started := started) ownP (by kernel_rfl) Try.func3
    (ChangeSpec.witness6 (enc := enc) (C := Try.checked) false ⟨#[], #[.slice none 0 0], []⟩ 8 (by kernel_rfl) (by kernel_rfl) (by kernel_rfl) (by kernel_rfl))
    laidOutP (by kernel_rfl) (by kernel_rfl) rfl Try.underlying4 rfl
    (fun ds h => by match ds, h with | [_], _ => rfl) (by kernel_rfl) lawRandomSerial

theorem overRandomSerial : Rows.fnExactRandomSerialRow.holds Try.pinned (OpenSpec.ofChange Rows.fnExactRandomSerialSpec) :=
  OpenClaim.holds_of_wide 3 Try.f3 rfl rfl rfl rfl rfl rfl rfl ⟨rfl, rfl, rfl, rfl, rfl⟩ rfl rfl rfl rfl rfl (by kernel_rfl) Try.func3 (by kernel_rfl)
    (of_decide_eq_true (by kernel_rfl)) (by unfold Func.isWrapper; first | (rw [if_pos (by decide +kernel)]; kernel_rfl) | (rw [if_neg (by decide +kernel)]; exact ⟨rfl, rfl⟩))
    (fun os started H enc _ => liftedRandomSerial os started H enc)

theorem provedRandomSerial : Rows.FnExactRandomSerialSaid := overRandomSerial
#print axioms provedRandomSerial
end Go.Proofs.Ytlkgppincgpfjaa.Ax
