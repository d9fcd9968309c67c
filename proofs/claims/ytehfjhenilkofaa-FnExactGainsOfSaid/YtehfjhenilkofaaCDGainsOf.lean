/-
  PROVED: FnExactGainsOf returns true for all arguments, and its arguments read as they did. No condition.
-/
import Derived.Test.YtehfjhenilkofaaRows
import Derived.Test.YtehfjhenilkofaaCB3
import Derived.Test.YtehfjhenilkofaaCLGainsOf
namespace Go.Proofs.Ytehfjhenilkofaa.Ax
open Go Go.RowKit Go.ChangeShapes Go.WideShapes Go.ChangeAt

theorem lawGainsOf : ∀ l, DatL Try.prog Try.f7.params.toList l → CallOk Try.prog 7 l (.v (.bool true)) := by
  intro l h
  rw [Try.params7] at h
  obtain ⟨b0, _, rfl, hb0, b1, _, rfl, hb1, b2, _, rfl, hb2, rfl⟩ := h
  obtain ⟨n0, x0, rfl, _⟩ := datIntss hb0
  obtain ⟨n1, x1, rfl, _⟩ := datInts hb1
  obtain ⟨n2, x2, rfl, _⟩ := datLFracs hb2
  exact law_GainsOf n0 x0 n1 x1 n2 x2

set_option maxRecDepth 100000 in
theorem liftedGainsOf (os : Os) (started : os.Started) (H : Type) (enc : TypeId × Value → H) :
    ReturnsInHanded {} Try.checked os 7 .any (Rows.fnExactGainsOfSpec.pre6 enc Try.prog Try.f7 Rows.fnExactGainsOfRow.domain false) (Rows.fnExactGainsOfSpec.post enc Try.prog Try.f7 false true false false) :=
  framed (C := Try.checked) (tb := 4) (started := started) ownP (by kernel_rfl) Try.func7
    (ChangeSpec.witness6 (enc := enc) (C := Try.checked) false ⟨#[], #[.slice none 0 0, .slice none 0 0, .slice none 0 0], []⟩ 8 (by kernel_rfl) (by kernel_rfl) (by kernel_rfl) (by kernel_rfl))
    laidOutP (by kernel_rfl) (by kernel_rfl) rfl Try.underlying4 rfl
    (fun ds h => by match ds, h with | [_, _, _], _ => rfl) lawGainsOf

theorem overGainsOf : Rows.fnExactGainsOfRow.holds Try.pinned (OpenSpec.ofChange Rows.fnExactGainsOfSpec) :=
  OpenClaim.holds_of_wide 7 Try.f7 rfl rfl rfl rfl rfl rfl rfl ⟨rfl, rfl, rfl, rfl, rfl⟩ rfl rfl rfl rfl rfl (by kernel_rfl) Try.func7 (by kernel_rfl)
    (of_decide_eq_true (by kernel_rfl)) (by unfold Func.isWrapper; first | (rw [if_pos (by decide +kernel)]; kernel_rfl) | (rw [if_neg (by decide +kernel)]; exact ⟨rfl, rfl⟩))
    (fun os started H enc _ => liftedGainsOf os started H enc)

theorem provedGainsOf : Rows.FnExactGainsOfSaid := overGainsOf
#print axioms provedGainsOf
end Go.Proofs.Ytehfjhenilkofaa.Ax
