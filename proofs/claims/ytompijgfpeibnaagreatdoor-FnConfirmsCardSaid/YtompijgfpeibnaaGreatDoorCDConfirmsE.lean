/-
 What the card of FnConfirms says of its program. No condition.
-/
import Derived.Test.YtompijgfpeibnaaGreatDoorRows
import Derived.Test.YtompijgfpeibnaaGreatDoorCards
import Derived.JoinedOf
import Derived.KernelRfl
import Derived.Handy
import Derived.SevenTiedAt
namespace Go.Proofs.YtompijgfpeibnaaGreatDoor.Ax
open Go Go.RowKit
theorem pcLooks : true = Tryz.prog.looks [] := by kernel_rfl
theorem pcMain : Tryz.prog.mainIs = some (true, "f872a5b05f51f6135be8e9d9e997e28e755eade98e59a0d7bf9b1e1805ae0543".toList) := by kernel_rfl
theorem pcGoes : false = Rows.fnConfirmsRow.goesBy Tryz.prog := by kernel_rfl
end Go.Proofs.YtompijgfpeibnaaGreatDoor.Ax
