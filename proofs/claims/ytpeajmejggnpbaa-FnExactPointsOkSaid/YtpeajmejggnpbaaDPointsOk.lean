/-
  PROVED: FnExactPointsOk returns true for all arguments, and its argument reads as it did. No condition.
-/
import Derived.Test.YtpeajmejggnpbaaRows
import Derived.Test.YtpeajmejggnpbaaT2
import Derived.Test.YtpeajmejggnpbaaLPointsOk
namespace Go.Proofs.Ytpeajmejggnpbaa.Ax
open Go Go.RowKit Go.ChangeShapes Go.WideShapes Go.ChangeAt

theorem lawPointsOk : ∀ l, DatL Try.prog Try.f7.params.toList l → CallOk Try.prog 7 l (.v (.bool true)) := by
  intro l h
  rw [Try.params7] at h
  obtain ⟨a, _, rfl, ha, rfl⟩ := h
  obtain ⟨nl, xss, rfl, hl, hr⟩ := datIntss ha
  exact law_PointsOk nl xss (by simp only [maxLen] at hl; omega) (fun x hx => by have := (hr x hx).1; simp only [maxLen] at this; omega)

set_option maxRecDepth 100000 in
theorem liftedPointsOk (os : Os) (started : os.Started) (H : Type) (enc : TypeId × Value → H) :
    ReturnsInHanded {} Try.checked os 7 .any (Rows.fnExactPointsOkSpec.pre6 enc Try.prog Try.f7 Rows.fnExactPointsOkRow.domain false) (Rows.fnExactPointsOkSpec.post enc Try.prog Try.f7 false true false false) :=
  framed (C := Try.checked) (tb := 4) (started := started) ownP (by kernel_rfl) Try.func7
    (ChangeSpec.witness6 (enc := enc) (C := Try.checked) false ⟨#[], #[.slice none 0 0], []⟩ 8 (by kernel_rfl) (by kernel_rfl) (by kernel_rfl) (by kernel_rfl))
    laidOutP (by kernel_rfl) (by kernel_rfl) rfl Try.underlying4 rfl
    (fun ds h => by match ds, h with | [_], _ => rfl) lawPointsOk

theorem overPointsOk : Rows.fnExactPointsOkRow.holds Try.pinned (OpenSpec.ofChange Rows.fnExactPointsOkSpec) :=
  OpenClaim.holds_of_wide 7 Try.f7 rfl rfl rfl rfl rfl rfl rfl ⟨rfl, rfl, rfl, rfl, rfl⟩ rfl rfl rfl rfl rfl (by kernel_rfl) Try.func7 (by kernel_rfl)
    (of_decide_eq_true (by kernel_rfl)) (by unfold Func.isWrapper; first | (rw [if_pos (by decide +kernel)]; kernel_rfl) | (rw [if_neg (by decide +kernel)]; exact ⟨rfl, rfl⟩))
    (fun os started H enc _ => liftedPointsOk os started H enc)

theorem provedPointsOk : Rows.FnExactPointsOkSaid := overPointsOk
#print axioms provedPointsOk
end Go.Proofs.Ytpeajmejggnpbaa.Ax
