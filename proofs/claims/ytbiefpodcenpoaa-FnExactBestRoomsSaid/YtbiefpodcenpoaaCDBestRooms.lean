/-
  PROVED: FnExactBestRooms returns true for all arguments, and its arguments read as they did. No condition.
-/
import Derived.Test.YtbiefpodcenpoaaRows
import Derived.Test.YtbiefpodcenpoaaCB3
import Derived.Test.YtbiefpodcenpoaaCLBestRooms
namespace Go.Proofs.Ytbiefpodcenpoaa.Ax
open Go Go.RowKit Go.ChangeShapes Go.WideShapes Go.ChangeAt

theorem lawBestRooms : ∀ l, DatL Try.prog Try.f13.params.toList l → CallOk Try.prog 13 l (.v (.bool true)) := by
  intro l h
  rw [Try.params13] at h
  obtain ⟨b0, _, rfl, hb0, rfl⟩ := h
  obtain ⟨n0, x0, rfl, _⟩ := datIntss hb0
  exact law_BestRooms n0 x0

set_option maxRecDepth 100000 in
theorem liftedBestRooms (os : Os) (started : os.Started) (H : Type) (enc : TypeId × Value → H) :
    ReturnsInHanded {} Try.checked os 13 .any (Rows.fnExactBestRoomsSpec.pre6 enc Try.prog Try.f13 Rows.fnExactBestRoomsRow.domain false) (Rows.fnExactBestRoomsSpec.post enc Try.prog Try.f13 false true false false) :=
  framed (C := Try.checked) (tb := 4) (started := started) ownP (by kernel_rfl) Try.func13
    (ChangeSpec.witness6 (enc := enc) (C := Try.checked) false ⟨#[], #[.slice none 0 0], []⟩ 8 (by kernel_rfl) (by kernel_rfl) (by kernel_rfl) (by kernel_rfl))
    laidOutP (by kernel_rfl) (by kernel_rfl) rfl Try.underlying4 rfl
    (fun ds h => by match ds, h with | [_], _ => rfl) lawBestRooms

theorem overBestRooms : Rows.fnExactBestRoomsRow.holds Try.pinned (OpenSpec.ofChange Rows.fnExactBestRoomsSpec) :=
  OpenClaim.holds_of_wide 13 Try.f13 rfl rfl rfl rfl rfl rfl rfl ⟨rfl, rfl, rfl, rfl, rfl⟩ rfl rfl rfl rfl rfl (by kernel_rfl) Try.func13 (by kernel_rfl)
    (of_decide_eq_true (by kernel_rfl)) (by unfold Func.isWrapper; first | (rw [if_pos (by decide +kernel)]; kernel_rfl) | (rw [if_neg (by decide +kernel)]; exact ⟨rfl, rfl⟩))
    (fun os started H enc _ => liftedBestRooms os started H enc)

theorem provedBestRooms : Rows.FnExactBestRoomsSaid := overBestRooms
#print axioms provedBestRooms
end Go.Proofs.Ytbiefpodcenpoaa.Ax
