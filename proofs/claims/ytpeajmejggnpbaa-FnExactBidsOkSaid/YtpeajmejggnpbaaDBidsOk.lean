/-
  PROVED: FnExactBidsOk returns true for all arguments, and its argument reads as it did. No condition.
-/
import Derived.Test.YtpeajmejggnpbaaRows
import Derived.Test.YtpeajmejggnpbaaT2
import Derived.Test.YtpeajmejggnpbaaLBidsOk
namespace Go.Proofs.Ytpeajmejggnpbaa.Ax
open Go Go.RowKit Go.ChangeShapes Go.WideShapes Go.ChangeAt

theorem lawBidsOk : ∀ l, DatL Try.prog Try.f5.params.toList l → CallOk Try.prog 5 l (.v (.bool true)) := by
  intro l h
  rw [Try.params5] at h
  obtain ⟨a, _, rfl, ha, rfl⟩ := h
  obtain ⟨nl, xss, rfl, hl, hr⟩ := datIntss ha
  exact law_BidsOk nl xss (by simp only [maxLen] at hl; omega) (fun x hx => by have := (hr x hx).1; simp only [maxLen] at this; omega)

set_option maxRecDepth 100000 in
theorem liftedBidsOk (os : Os) (started : os.Started) (H : Type) (enc : TypeId × Value → H) :
    ReturnsInHanded {} Try.checked os 5 .any (Rows.fnExactBidsOkSpec.pre6 enc Try.prog Try.f5 Rows.fnExactBidsOkRow.domain false) (Rows.fnExactBidsOkSpec.post enc Try.prog Try.f5 false true false false) :=
  framed (C := Try.checked) (tb := 4) (started := started) ownP (by kernel_rfl) Try.func5
    (ChangeSpec.witness6 (enc := enc) (C := Try.checked) false ⟨#[], #[.slice none 0 0], []⟩ 8 (by kernel_rfl) (by kernel_rfl) (by kernel_rfl) (by kernel_rfl))
    laidOutP (by kernel_rfl) (by kernel_rfl) rfl Try.underlying4 rfl
    (fun ds h => by match ds, h with | [_], _ => rfl) lawBidsOk

theorem overBidsOk : Rows.fnExactBidsOkRow.holds Try.pinned (OpenSpec.ofChange Rows.fnExactBidsOkSpec) :=
  OpenClaim.holds_of_wide 5 Try.f5 rfl rfl rfl rfl rfl rfl rfl ⟨rfl, rfl, rfl, rfl, rfl⟩ rfl rfl rfl rfl rfl (by kernel_rfl) Try.func5 (by kernel_rfl)
    (of_decide_eq_true (by kernel_rfl)) (by unfold Func.isWrapper; first | (rw [if_pos (by decide +kernel)]; kernel_rfl) | (rw [if_neg (by decide +kernel)]; exact ⟨rfl, rfl⟩))
    (fun os started H enc _ => liftedBidsOk os started H enc)

theorem provedBidsOk : Rows.FnExactBidsOkSaid := overBidsOk
#print axioms provedBidsOk
end Go.Proofs.Ytpeajmejggnpbaa.Ax
