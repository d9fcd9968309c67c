/-
  PROVED: FnExactHeirPoints returns true for all arguments, and its arguments read as they did. No condition.
-/
import Derived.Test.YtehfjhenilkofaaRows
import Derived.Test.YtehfjhenilkofaaCB3
import Derived.Test.YtehfjhenilkofaaCLHeirPoints
namespace Go.Proofs.Ytehfjhenilkofaa.Ax
open Go Go.RowKit Go.ChangeShapes Go.WideShapes Go.ChangeAt

theorem lawHeirPoints : ∀ l, DatL Try.prog Try.f5.params.toList l → CallOk Try.prog 5 l (.v (.bool true)) := by
  intro l h
  rw [Try.params5] at h
  obtain ⟨b0, _, rfl, hb0, b1, _, rfl, hb1, b2, _, rfl, hb2, rfl⟩ := h
  obtain ⟨n0, x0, rfl, _⟩ := datIntss hb0
  obtain ⟨n1, x1, rfl, _⟩ := datLFracs hb1
  obtain ⟨x2, rfl, _⟩ := hb2.int Try.underlying3
  exact law_HeirPoints n0 x0 n1 x1 x2

set_option maxRecDepth 100000 in
theorem liftedHeirPoints (os : Os) (started : os.Started) (H : Type) (enc : TypeId × Value → H) :
    ReturnsInHanded {} Try.checked os 5 .any (Rows.fnExactHeirPointsSpec.pre6 enc Try.prog Try.f5 Rows.fnExactHeirPointsRow.domain false) (Rows.fnExactHeirPointsSpec.post enc Try.prog Try.f5 false true false false) :=
  framed (C := Try.checked) (tb := 4) (started := started) ownP (by kernel_rfl) Try.func5
    (ChangeSpec.witness6 (enc := enc) (C := Try.checked) false ⟨#[], #[.slice none 0 0, .slice none 0 0, .int .i64 0], []⟩ 8 (by kernel_rfl) (by kernel_rfl) (by kernel_rfl) (by kernel_rfl))
    laidOutP (by kernel_rfl) (by kernel_rfl) rfl Try.underlying4 rfl
    (fun ds h => by match ds, h with | [_, _, _], _ => rfl) lawHeirPoints

theorem overHeirPoints : Rows.fnExactHeirPointsRow.holds Try.pinned (OpenSpec.ofChange Rows.fnExactHeirPointsSpec) :=
  OpenClaim.holds_of_wide 5 Try.f5 rfl rfl rfl rfl rfl rfl rfl ⟨rfl, rfl, rfl, rfl, rfl⟩ rfl rfl rfl rfl rfl (by kernel_rfl) Try.func5 (by kernel_rfl)
    (of_decide_eq_true (by kernel_rfl)) (by unfold Func.isWrapper; first | (rw [if_pos (by decide +kernel)]; kernel_rfl) | (rw [if_neg (by decide +kernel)]; exact ⟨rfl, rfl⟩))
    (fun os started H enc _ => liftedHeirPoints os started H enc)

theorem provedHeirPoints : Rows.FnExactHeirPointsSaid := overHeirPoints
#print axioms provedHeirPoints
end Go.Proofs.Ytehfjhenilkofaa.Ax
