/-
  PROVED: FnExactCakeOk returns true for all arguments, and its argument reads as it did. No condition.
-/
import Derived.Test.YtpeajmejggnpbaaRows
import Derived.Test.YtpeajmejggnpbaaT2
import Derived.Test.YtpeajmejggnpbaaLCakeOk
namespace Go.Proofs.Ytpeajmejggnpbaa.Ax
open Go Go.RowKit Go.ChangeShapes Go.WideShapes Go.ChangeAt

theorem lawCakeOk : ∀ l, DatL Try.prog Try.f6.params.toList l → CallOk Try.prog 6 l (.v (.bool true)) := by
  intro l h
  rw [Try.params6] at h
  obtain ⟨a, _, rfl, ha, rfl⟩ := h
  obtain ⟨nl, xss, rfl, hl, hr⟩ := datIntss ha
  exact law_CakeOk nl xss (by simp only [maxLen] at hl; omega) (fun x hx => by have := (hr x hx).1; simp only [maxLen] at this; omega)

set_option maxRecDepth 100000 in
theorem liftedCakeOk (os : Os) (started : os.Started) (H : Type) (enc : TypeId × Value → H) :
    ReturnsInHanded {} Try.checked os 6 .any (Rows.fnExactCakeOkSpec.pre6 enc Try.prog Try.f6 Rows.fnExactCakeOkRow.domain false) (Rows.fnExactCakeOkSpec.post enc Try.prog Try.f6 false true false false) :=
  framed (C := Try.checked) (tb := 4) (started := started) ownP (by kernel_rfl) Try.func6
    (ChangeSpec.witness6 (enc := enc) (C := Try.checked) false ⟨#[], #[.slice none 0 0], []⟩ 8 (by kernel_rfl) (by kernel_rfl) (by kernel_rfl) (by kernel_rfl))
    laidOutP (by kernel_rfl) (by kernel_rfl) rfl Try.underlying4 rfl
    (fun ds h => by match ds, h with | [_], _ => rfl) lawCakeOk

theorem overCakeOk : Rows.fnExactCakeOkRow.holds Try.pinned (OpenSpec.ofChange Rows.fnExactCakeOkSpec) :=
  OpenClaim.holds_of_wide 6 Try.f6 rfl rfl rfl rfl rfl rfl rfl ⟨rfl, rfl, rfl, rfl, rfl⟩ rfl rfl rfl rfl rfl (by kernel_rfl) Try.func6 (by kernel_rfl)
    (of_decide_eq_true (by kernel_rfl)) (by unfold Func.isWrapper; first | (rw [if_pos (by decide +kernel)]; kernel_rfl) | (rw [if_neg (by decide +kernel)]; exact ⟨rfl, rfl⟩))
    (fun os started H enc _ => liftedCakeOk os started H enc)

theorem provedCakeOk : Rows.FnExactCakeOkSaid := overCakeOk
#print axioms provedCakeOk
end Go.Proofs.Ytpeajmejggnpbaa.Ax
