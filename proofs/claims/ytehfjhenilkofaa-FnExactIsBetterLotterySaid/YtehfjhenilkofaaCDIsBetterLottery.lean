/-
  PROVED: FnExactIsBetterLottery returns true for all arguments, and its arguments read as they did. No condition.
-/
import Derived.Test.YtehfjhenilkofaaRows
import Derived.Test.YtehfjhenilkofaaCB3
import Derived.Test.YtehfjhenilkofaaCLIsBetterLottery
namespace Go.Proofs.Ytehfjhenilkofaa.Ax
open Go Go.RowKit Go.ChangeShapes Go.WideShapes Go.ChangeAt

theorem lawIsBetterLottery : ∀ l, DatL Try.prog Try.f4.params.toList l → CallOk Try.prog 4 l (.v (.bool true)) := by
  intro l h
  rw [Try.params4] at h
  obtain ⟨b0, _, rfl, hb0, b1, _, rfl, hb1, b2, _, rfl, hb2, rfl⟩ := h
  obtain ⟨n0, x0, rfl, _⟩ := datInts hb0
  obtain ⟨n1, x1, rfl, _⟩ := datLFracs hb1
  obtain ⟨n2, x2, rfl, _⟩ := datLFracs hb2
  exact law_IsBetterLottery n0 x0 n1 x1 n2 x2

set_option maxRecDepth 100000 in
theorem liftedIsBetterLottery (os : Os) (started : os.Started) (H : Type) (enc : TypeId × Value → H) :
    ReturnsInHanded {} Try.checked os 4 .any (Rows.fnExactIsBetterLotterySpec.pre6 enc Try.prog Try.f4 Rows.fnExactIsBetterLotteryRow.domain false) (Rows.fnExactIsBetterLotterySpec.post enc Try.prog Try.f4 false true false false) :=
  framed (C := Try.checked) (tb := 4) (started := started) ownP (by kernel_rfl) Try.func4
    (ChangeSpec.witness6 (enc := enc) (C := Try.checked) false ⟨#[], #[.slice none 0 0, .slice none 0 0, .slice none 0 0], []⟩ 8 (by kernel_rfl) (by kernel_rfl) (by kernel_rfl) (by kernel_rfl))
    laidOutP (by kernel_rfl) (by kernel_rfl) rfl Try.underlying4 rfl
    (fun ds h => by match ds, h with | [_, _, _], _ => rfl) lawIsBetterLottery

theorem overIsBetterLottery : Rows.fnExactIsBetterLotteryRow.holds Try.pinned (OpenSpec.ofChange Rows.fnExactIsBetterLotterySpec) :=
  OpenClaim.holds_of_wide 4 Try.f4 rfl rfl rfl rfl rfl rfl rfl ⟨rfl, rfl, rfl, rfl, rfl⟩ rfl rfl rfl rfl rfl (by kernel_rfl) Try.func4 (by kernel_rfl)
    (of_decide_eq_true (by kernel_rfl)) (by unfold Func.isWrapper; first | (rw [if_pos (by decide +kernel)]; kernel_rfl) | (rw [if_neg (by decide +kernel)]; exact ⟨rfl, rfl⟩))
    (fun os started H enc _ => liftedIsBetterLottery os started H enc)

theorem provedIsBetterLottery : Rows.FnExactIsBetterLotterySaid := overIsBetterLottery
#print axioms provedIsBetterLottery
end Go.Proofs.Ytehfjhenilkofaa.Ax
