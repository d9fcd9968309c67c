/-
  PROVED: FnExactCountCalm returns true for all arguments, and its arguments read as they did. No condition.
-/
import Derived.Test.YtkfgmpmeipilnaaRows
import Derived.Test.YtkfgmpmeipilnaaCB1
import Derived.Test.YtkfgmpmeipilnaaCLCountCalm
namespace Go.Proofs.Ytkfgmpmeipilnaa.Ax
open Go Go.RowKit Go.ChangeShapes Go.WideShapes Go.ChangeAt

theorem lawCountCalm : ∀ l, DatL Try.prog Try.f9.params.toList l → CallOk Try.prog 9 l (.v (.bool true)) := by
  intro l h
  rw [Try.params9] at h
  obtain ⟨b0, _, rfl, hb0, rfl⟩ := h
  obtain ⟨n0, x0, rfl, _⟩ := datIntss hb0
  exact law_CountCalm n0 x0

set_option maxRecDepth 100000 in
theorem liftedCountCalm (os : Os) (started : os.Started) (H : Type) (enc : TypeId × Value → H) :
    ReturnsInHanded {} Try.checked os 9 .any (Rows.fnExactCountCalmSpec.pre6 enc Try.prog Try.f9 Rows.fnExactCountCalmRow.domain false) (Rows.fnExactCountCalmSpec.post enc Try.prog Try.f9 false true false false) :=
  framed (C := Try.checked) (tb := 4) (started := started) ownP (by kernel_rfl) Try.func9
    (ChangeSpec.witness6 (enc := enc) (C := Try.checked) false ⟨#[], #[.slice none 0 0], []⟩ 8 (by kernel_rfl) (by kernel_rfl) (by kernel_rfl) (by kernel_rfl))
    laidOutP (by kernel_rfl) (by kernel_rfl) rfl Try.underlying4 rfl
    (fun ds h => by match ds, h with | [_], _ => rfl) (by kernel_rfl) lawCountCalm

theorem overCountCalm : Rows.fnExactCountCalmRow.holds Try.pinned (OpenSpec.ofChange Rows.fnExactCountCalmSpec) :=
  OpenClaim.holds_of_wide 9 Try.f9 rfl rfl rfl rfl rfl rfl rfl ⟨rfl, rfl, rfl, rfl, rfl⟩ rfl rfl rfl rfl rfl (by kernel_rfl) Try.func9 (by kernel_rfl)
    (of_decide_eq_true (by kernel_rfl)) (by unfold Func.isWrapper; first | (rw [if_pos (by decide +kernel)]; kernel_rfl) | (rw [if_neg (by decide +kernel)]; exact ⟨rfl, rfl⟩))
    (fun os started H enc _ => liftedCountCalm os started H enc)

theorem provedCountCalm : Rows.FnExactCountCalmSaid := overCountCalm
#print axioms provedCountCalm
end Go.Proofs.Ytkfgmpmeipilnaa.Ax
