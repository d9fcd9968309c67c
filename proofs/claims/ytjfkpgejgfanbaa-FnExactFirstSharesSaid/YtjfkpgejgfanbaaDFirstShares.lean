/-
  PROVED: FnExactFirstShares returns true for all arguments, and its arguments read as they did. No condition.
-/
import Derived.Test.YtjfkpgejgfanbaaRows
import Derived.Test.YtjfkpgejgfanbaaT2
import Derived.Test.YtjfkpgejgfanbaaLFirstShares
namespace Go.Proofs.Ytjfkpgejgfanbaa.Ax
open Go Go.RowKit Go.ChangeShapes Go.WideShapes Go.ChangeAt

theorem lawFirstShares : ∀ l, DatL Try.prog Try.f11.params.toList l → CallOk Try.prog 11 l (.v (.bool true)) := by
  intro l h
  rw [Try.params11] at h
  obtain ⟨b0, _, rfl, hb0, rfl⟩ := h
  obtain ⟨n0, x0, rfl, _⟩ := datIntss hb0
  exact law_FirstShares n0 x0

set_option maxRecDepth 100000 in
theorem liftedFirstShares (os : Os) (started : os.Started) (H : Type) (enc : TypeId × Value → H) :
    ReturnsInHanded {} Try.checked os 11 .any (Rows.fnExactFirstSharesSpec.pre6 enc Try.prog Try.f11 Rows.fnExactFirstSharesRow.domain false) (Rows.fnExactFirstSharesSpec.post enc Try.prog Try.f11 false true false false) :=
  framed (C := Try.checked) (tb := 4) (started := started) ownP (by kernel_rfl) Try.func11
    (ChangeSpec.witness6 (enc := enc) (C := Try.checked) false ⟨#[], #[.slice none 0 0], []⟩ 8 (by kernel_rfl) (by kernel_rfl) (by kernel_rfl) (by kernel_rfl))
    laidOutP (by kernel_rfl) (by kernel_rfl) rfl Try.underlying4 rfl
    (fun ds h => by match ds, h with | [_], _ => rfl) lawFirstShares

theorem overFirstShares : Rows.fnExactFirstSharesRow.holds Try.pinned (OpenSpec.ofChange Rows.fnExactFirstSharesSpec) :=
  OpenClaim.holds_of_wide 11 Try.f11 rfl rfl rfl rfl rfl rfl rfl ⟨rfl, rfl, rfl, rfl, rfl⟩ rfl rfl rfl rfl rfl (by kernel_rfl) Try.func11 (by kernel_rfl)
    (of_decide_eq_true (by kernel_rfl)) (by unfold Func.isWrapper; first | (rw [if_pos (by decide +kernel)]; kernel_rfl) | (rw [if_neg (by decide +kernel)]; exact ⟨rfl, rfl⟩))
    (fun os started H enc _ => liftedFirstShares os started H enc)

theorem provedFirstShares : Rows.FnExactFirstSharesSaid := overFirstShares
#print axioms provedFirstShares
end Go.Proofs.Ytjfkpgejgfanbaa.Ax
