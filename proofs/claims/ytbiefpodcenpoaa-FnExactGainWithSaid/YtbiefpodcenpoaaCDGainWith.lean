/-
  PROVED: FnExactGainWith returns true for all arguments, and its arguments read as they did. No condition.
-/
import Derived.Test.YtbiefpodcenpoaaRows
import Derived.Test.YtbiefpodcenpoaaCB3
import Derived.Test.YtbiefpodcenpoaaCLGainWith
namespace Go.Proofs.Ytbiefpodcenpoaa.Ax
open Go Go.RowKit Go.ChangeShapes Go.WideShapes Go.ChangeAt

theorem lawGainWith : ∀ l, DatL Try.prog Try.f8.params.toList l → CallOk Try.prog 8 l (.v (.bool true)) := by
  intro l h
  rw [Try.params8] at h
  obtain ⟨b0, _, rfl, hb0, b1, _, rfl, hb1, b2, _, rfl, hb2, rfl⟩ := h
  obtain ⟨n0, x0, rfl, _⟩ := datIntss hb0
  obtain ⟨x1, rfl, _⟩ := hb1.int Try.underlying3
  obtain ⟨n2, x2, rfl, _⟩ := datInts hb2
  exact law_GainWith n0 x0 x1 n2 x2

set_option maxRecDepth 100000 in
theorem liftedGainWith (os : Os) (started : os.Started) (H : Type) (enc : TypeId × Value → H) :
    ReturnsInHanded {} Try.checked os 8 .any (Rows.fnExactGainWithSpec.pre6 enc Try.prog Try.f8 Rows.fnExactGainWithRow.domain false) (Rows.fnExactGainWithSpec.post enc Try.prog Try.f8 false true false false) :=
  framed (C := Try.checked) (tb := 4) (started := started) ownP (by kernel_rfl) Try.func8
    (ChangeSpec.witness6 (enc := enc) (C := Try.checked) false ⟨#[], #[.slice none 0 0, .int .i64 0, .slice none 0 0], []⟩ 8 (by kernel_rfl) (by kernel_rfl) (by kernel_rfl) (by kernel_rfl))
    laidOutP (by kernel_rfl) (by kernel_rfl) rfl Try.underlying4 rfl
    (fun ds h => by match ds, h with | [_, _, _], _ => rfl) lawGainWith

theorem overGainWith : Rows.fnExactGainWithRow.holds Try.pinned (OpenSpec.ofChange Rows.fnExactGainWithSpec) :=
  OpenClaim.holds_of_wide 8 Try.f8 rfl rfl rfl rfl rfl rfl rfl ⟨rfl, rfl, rfl, rfl, rfl⟩ rfl rfl rfl rfl rfl (by kernel_rfl) Try.func8 (by kernel_rfl)
    (of_decide_eq_true (by kernel_rfl)) (by unfold Func.isWrapper; first | (rw [if_pos (by decide +kernel)]; kernel_rfl) | (rw [if_neg (by decide +kernel)]; exact ⟨rfl, rfl⟩))
    (fun os started H enc _ => liftedGainWith os started H enc)

theorem provedGainWith : Rows.FnExactGainWithSaid := overGainWith
#print axioms provedGainWith
end Go.Proofs.Ytbiefpodcenpoaa.Ax
