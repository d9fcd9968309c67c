/-
  PROVED: FnExactSecondPrice returns true for all arguments, and its argument reads as it did. No condition.
-/
import Derived.Test.YtpeajmejggnpbaaRows
import Derived.Test.YtpeajmejggnpbaaT2
import Derived.Test.YtpeajmejggnpbaaLSecondPrice
namespace Go.Proofs.Ytpeajmejggnpbaa.Ax
open Go Go.RowKit Go.ChangeShapes Go.WideShapes Go.ChangeAt

theorem lawSecondPrice : ∀ l, DatL Try.prog Try.f4.params.toList l → CallOk Try.prog 4 l (.v (.bool true)) := by
  intro l h
  rw [Try.params4] at h
  obtain ⟨a, _, rfl, ha, rfl⟩ := h
  obtain ⟨nl, xs, rfl, hl, _⟩ := datInts ha
  exact law_SecondPrice nl xs

set_option maxRecDepth 100000 in
theorem liftedSecondPrice (os : Os) (started : os.Started) (H : Type) (enc : TypeId × Value → H) :
    ReturnsInHanded {} Try.checked os 4 .any (Rows.fnExactSecondPriceSpec.pre6 enc Try.prog Try.f4 Rows.fnExactSecondPriceRow.domain false) (Rows.fnExactSecondPriceSpec.post enc Try.prog Try.f4 false true false false) :=
  framed (C := Try.checked) (tb := 4) (started := started) ownP (by kernel_rfl) Try.func4
    (ChangeSpec.witness6 (enc := enc) (C := Try.checked) false ⟨#[], #[.slice none 0 0], []⟩ 8 (by kernel_rfl) (by kernel_rfl) (by kernel_rfl) (by kernel_rfl))
    laidOutP (by kernel_rfl) (by kernel_rfl) rfl Try.underlying4 rfl
    (fun ds h => by match ds, h with | [_], _ => rfl) lawSecondPrice

theorem overSecondPrice : Rows.fnExactSecondPriceRow.holds Try.pinned (OpenSpec.ofChange Rows.fnExactSecondPriceSpec) :=
  OpenClaim.holds_of_wide 4 Try.f4 rfl rfl rfl rfl rfl rfl rfl ⟨rfl, rfl, rfl, rfl, rfl⟩ rfl rfl rfl rfl rfl (by kernel_rfl) Try.func4 (by kernel_rfl)
    (of_decide_eq_true (by kernel_rfl)) (by unfold Func.isWrapper; first | (rw [if_pos (by decide +kernel)]; kernel_rfl) | (rw [if_neg (by decide +kernel)]; exact ⟨rfl, rfl⟩))
    (fun os started H enc _ => liftedSecondPrice os started H enc)

theorem provedSecondPrice : Rows.FnExactSecondPriceSaid := overSecondPrice
#print axioms provedSecondPrice
end Go.Proofs.Ytpeajmejggnpbaa.Ax
