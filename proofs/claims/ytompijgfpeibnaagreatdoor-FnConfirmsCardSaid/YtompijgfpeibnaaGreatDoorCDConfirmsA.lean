/-
 What the row of FnConfirms says of its program, limb by limb: a first half. No condition.
-/
import Derived.Test.YtompijgfpeibnaaGreatDoorRows
import Derived.Test.YtompijgfpeibnaaGreatDoorCards
import Derived.JoinedOf
import Derived.KernelRfl
import Derived.Handy
import Derived.SevenTiedAt
namespace Go.Proofs.YtompijgfpeibnaaGreatDoor.Ax
open Go Go.RowKit
theorem jf0 : (Rows.fnConfirmsRow.wf (OpenSpec.ofChange Rows.fnConfirmsSpec)) = true := by kernel_rfl
theorem jf1 : (laidOutB Tryz.prog) = true := by kernel_rfl
theorem jf2 : (mapsRowed Tryz.prog) = true := by kernel_rfl
theorem jf3 : (Tryz.f3.params.all (Tryz.prog.readableRec ·)) = true := by kernel_rfl
theorem jf4 : (namedTie Tryz.prog Rows.fnConfirmsRow.named Rows.fnConfirmsSpec.vars) = true := by kernel_rfl
theorem jf5 : (Rows.fnConfirmsRow.stops == []) = true := by kernel_rfl
theorem jf6 : (Tryz.prog.stops == []) = true := by kernel_rfl
theorem jf7 : (Rows.fnConfirmsRow.knobs == []) = true := by kernel_rfl
theorem jf8 : (Tryz.prog.stopKnobs == []) = true := by kernel_rfl
theorem jf9 : (Rows.fnConfirmsRow.inPlace == Tryz.prog.inPlace 3) = true := by kernel_rfl
theorem jf10 : (Rows.fnConfirmsRow.unfollowed == Tryz.prog.unfollowed 3) = true := by kernel_rfl
end Go.Proofs.YtompijgfpeibnaaGreatDoor.Ax
