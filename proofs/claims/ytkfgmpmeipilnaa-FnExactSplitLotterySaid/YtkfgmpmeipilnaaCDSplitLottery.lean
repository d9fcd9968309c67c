/-
  PROVED: FnExactSplitLottery returns true for all arguments, and its arguments read as they did. No condition.
-/
import Derived.Test.YtkfgmpmeipilnaaRows
import Derived.Test.YtkfgmpmeipilnaaCB2
import Derived.Test.YtkfgmpmeipilnaaCLSplitLottery
namespace Go.Proofs.Ytkfgmpmeipilnaa.Ax
open Go Go.RowKit Go.ChangeShapes Go.WideShapes Go.ChangeAt

theorem lawSplitLottery : ∀ l, DatL Try.prog Try.f7.params.toList l → CallOk Try.prog 7 l (.v (.bool true)) := by
  intro l h
  rw [Try.params7] at h
  obtain ⟨b0, _, rfl, hb0, rfl⟩ := h
  obtain ⟨n0, x0, rfl, _⟩ := datLFracss hb0
  exact law_SplitLottery n0 x0

set_option maxRecDepth 100000 in
theorem liftedSplitLottery (os : Os) (started : os.Started) (H : Type) (enc : TypeId × Value → H) :
    ReturnsInHanded {} Try.checked os 7 .any (Rows.fnExactSplitLotterySpec.pre6 enc Try.prog Try.f7 Rows.fnExactSplitLotteryRow.domain false) (Rows.fnExactSplitLotterySpec.post enc Try.prog Try.f7 false true false false) :=
  framed (C := Try.checked) (tb := 4) (started := started) ownP (by kernel_rfl) Try.func7
    (ChangeSpec.witness6 (enc := enc) (C := Try.checked) false ⟨#[], #[.slice none 0 0], []⟩ 8 (by kernel_rfl) (by kernel_rfl) (by kernel_rfl) (by kernel_rfl))
    laidOutP (by kernel_rfl) (by kernel_rfl) rfl Try.underlying4 rfl
    (fun ds h => by match ds, h with | [_], _ => rfl) (by kernel_rfl) lawSplitLottery

theorem overSplitLottery : Rows.fnExactSplitLotteryRow.holds Try.pinned (OpenSpec.ofChange Rows.fnExactSplitLotterySpec) :=
  OpenClaim.holds_of_wide 7 Try.f7 rfl rfl rfl rfl rfl rfl rfl ⟨rfl, rfl, rfl, rfl, rfl⟩ rfl rfl rfl rfl rfl (by kernel_rfl) Try.func7 (by kernel_rfl)
    (of_decide_eq_true (by kernel_rfl)) (by unfold Func.isWrapper; first | (rw [if_pos (by decide +kernel)]; kernel_rfl) | (rw [if_neg (by decide +kernel)]; exact ⟨rfl, rfl⟩))
    (fun os started H enc _ => liftedSplitLottery os started H enc)

theorem provedSplitLottery : Rows.FnExactSplitLotterySaid := overSplitLottery
#print axioms provedSplitLottery
end Go.Proofs.Ytkfgmpmeipilnaa.Ax
