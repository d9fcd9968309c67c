/-
  DERIVED. GIVEN WITH THE SEED: THE CARDS: each row of YtigepnpiofcooaaGreatDoorRows.lean that lists a variable, with what it lists TIED to the program's text (the seventh form; the later family's looks); each row that meets fmt, with fmt's text TOLD by the authors' own Lean function (tested against real Go, not proved from fmt's source: count such statements apart). THE CARD IS WHAT COUNTS. Prove the row's statement (the work); the ties are given (YtigepnpiofcooaaGreatDoorTie.lean); close each card by the builder's one call (the guide's Derived/Test/ToyasCard.lean, 'card_holds'). Laid BY PROGRAM, IN A SANDBOX (cutbox-door.mjs). By AI agents, Wed Nov 11 2026. No macro, syntax, notation, axiom, sorry.
-/
import Derived.Test.YtigepnpiofcooaaGreatDoorRows
import GoSem.ClaimSeven
namespace Go.Proofs.YtigepnpiofcooaaGreatDoor
namespace Rows

/-- THE TIED CARD OF 'laws.FnExactNewConsole'. -/
def fnExactNewConsoleCard : Claim7 := { stood := { row := fnExactNewConsoleRow, standIns := [], harness := (true, "ff8b1dce47ca411aee3293157b6ef111711fdb32face320720070f2b2b5f94c0"), looks := true }, kinds := [], alts := [], laidByText := true, laidKinds := [.data, .data, .data, .data, .sentinel, .sentinel, .pinned], laidTests := true, laidLooks := .later }
def FnExactNewConsoleCardSaid : Prop := Claim7.holds Tryz.pinned (.plain (OpenSpec.ofChange fnExactNewConsoleSpec)) fnExactNewConsoleCard

/-- THE SECOND FORM's CARD OF 'laws.FnExactNewConsole'. -/
def fnExactNewConsoleUptoCard : Claim7 := { stood := { row := fnExactNewConsoleUptoRow, standIns := [], harness := (true, "ff8b1dce47ca411aee3293157b6ef111711fdb32face320720070f2b2b5f94c0"), looks := true }, kinds := [], alts := [], laidByText := true, laidKinds := [.data, .data, .data, .data, .sentinel, .sentinel, .pinned], laidTests := true, laidLooks := .later }
def FnExactNewConsoleUptoCardSaid : Prop := Claim7.holds Tryz.pinned (.plain (OpenSpec.upto fnExactNewConsoleSpec)) fnExactNewConsoleUptoCard
end Rows
end Go.Proofs.YtigepnpiofcooaaGreatDoor
