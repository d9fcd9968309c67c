/-
  PROVED: FnExactCountSplit returns true for all arguments, and its argument reads as it did. No condition.
-/
import Derived.Test.YtpeajmejggnpbaaRows
import Derived.Test.YtpeajmejggnpbaaT1
import Derived.Test.YtpeajmejggnpbaaLCountSplit
namespace Go.Proofs.Ytpeajmejggnpbaa.Ax
open Go Go.RowKit Go.ChangeShapes Go.WideShapes Go.ChangeAt

theorem ownP : ownKnob Try.prog.godebug = none := by kernel_rfl
theorem laidOutP : laidOutB Try.prog = true := by kernel_rfl

theorem lawCountSplit : ∀ l, DatL Try.prog Try.f3.params.toList l → CallOk Try.prog 3 l (.v (.bool true)) := by
  intro l h
  rw [Try.params3] at h
  obtain ⟨a, _, rfl, ha, rfl⟩ := h
  obtain ⟨nl, xs, rfl, hl, _⟩ := datLFracs ha
  exact law_CountSplit nl xs (by simp only [maxLen] at hl; omega)

set_option maxRecDepth 100000 in
theorem liftedCountSplit (os : Os) (started : os.Started) (H : Type) (enc : TypeId × Value → H) :
    ReturnsInHanded {} Try.checked os 3 .any (Rows.fnExactCountSplitSpec.pre6 enc Try.prog Try.f3 Rows.fnExactCountSplitRow.domain false) (Rows.fnExactCountSplitSpec.post enc Try.prog Try.f3 false true false false) :=
  framed (C := Try.checked) (tb := 4) (started := started) ownP (by kernel_rfl) Try.func3
    (ChangeSpec.witness6 (enc := enc) (C := Try.checked) false ⟨#[], #[.slice none 0 0], []⟩ 8 (by kernel_rfl) (by kernel_rfl) (by kernel_rfl) (by kernel_rfl))
    laidOutP (by kernel_rfl) (by kernel_rfl) rfl Try.underlying4 rfl
    (fun ds h => by match ds, h with | [_], _ => rfl) lawCountSplit

theorem overCountSplit : Rows.fnExactCountSplitRow.holds Try.pinned (OpenSpec.ofChange Rows.fnExactCountSplitSpec) :=
  OpenClaim.holds_of_wide 3 Try.f3 rfl rfl rfl rfl rfl rfl rfl ⟨rfl, rfl, rfl, rfl, rfl⟩ rfl rfl rfl rfl rfl (by kernel_rfl) Try.func3 (by kernel_rfl)
    (of_decide_eq_true (by kernel_rfl)) (by unfold Func.isWrapper; first | (rw [if_pos (by decide +kernel)]; kernel_rfl) | (rw [if_neg (by decide +kernel)]; exact ⟨rfl, rfl⟩))
    (fun os started H enc _ => liftedCountSplit os started H enc)

theorem provedCountSplit : Rows.FnExactCountSplitSaid := overCountSplit
#print axioms provedCountSplit
end Go.Proofs.Ytpeajmejggnpbaa.Ax
