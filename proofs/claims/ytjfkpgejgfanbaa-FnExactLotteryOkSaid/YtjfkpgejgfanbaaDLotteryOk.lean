/-
  PROVED: FnExactLotteryOk returns true for all arguments, and its arguments read as they did. No condition.
-/
import Derived.Test.YtjfkpgejgfanbaaRows
import Derived.Test.YtjfkpgejgfanbaaT3
import Derived.Test.YtjfkpgejgfanbaaLLotteryOk
namespace Go.Proofs.Ytjfkpgejgfanbaa.Ax
open Go Go.RowKit Go.ChangeShapes Go.WideShapes Go.ChangeAt

theorem lawLotteryOk : ∀ l, DatL Try.prog Try.f14.params.toList l → CallOk Try.prog 14 l (.v (.bool true)) := by
  intro l h
  rw [Try.params14] at h
  obtain ⟨b0, _, rfl, hb0, rfl⟩ := h
  obtain ⟨n0, x0, rfl, _⟩ := datLFracss hb0
  exact law_LotteryOk n0 x0

set_option maxRecDepth 100000 in
theorem liftedLotteryOk (os : Os) (started : os.Started) (H : Type) (enc : TypeId × Value → H) :
    ReturnsInHanded {} Try.checked os 14 .any (Rows.fnExactLotteryOkSpec.pre6 enc Try.prog Try.f14 Rows.fnExactLotteryOkRow.domain false) (Rows.fnExactLotteryOkSpec.post enc Try.prog Try.f14 false true false false) :=
  framed (C := Try.checked) (tb := 4) (started := started) ownP (by kernel_rfl) Try.func14
    (ChangeSpec.witness6 (enc := enc) (C := Try.checked) false ⟨#[], #[.slice none 0 0], []⟩ 8 (by kernel_rfl) (by kernel_rfl) (by kernel_rfl) (by kernel_rfl))
    laidOutP (by kernel_rfl) (by kernel_rfl) rfl Try.underlying4 rfl
    (fun ds h => by match ds, h with | [_], _ => rfl) lawLotteryOk

theorem overLotteryOk : Rows.fnExactLotteryOkRow.holds Try.pinned (OpenSpec.ofChange Rows.fnExactLotteryOkSpec) :=
  OpenClaim.holds_of_wide 14 Try.f14 rfl rfl rfl rfl rfl rfl rfl ⟨rfl, rfl, rfl, rfl, rfl⟩ rfl rfl rfl rfl rfl (by kernel_rfl) Try.func14 (by kernel_rfl)
    (of_decide_eq_true (by kernel_rfl)) (by unfold Func.isWrapper; first | (rw [if_pos (by decide +kernel)]; kernel_rfl) | (rw [if_neg (by decide +kernel)]; exact ⟨rfl, rfl⟩))
    (fun os started H enc _ => liftedLotteryOk os started H enc)

theorem provedLotteryOk : Rows.FnExactLotteryOkSaid := overLotteryOk
#print axioms provedLotteryOk
end Go.Proofs.Ytjfkpgejgfanbaa.Ax
