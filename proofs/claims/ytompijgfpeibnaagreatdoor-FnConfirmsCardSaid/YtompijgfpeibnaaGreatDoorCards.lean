/-
  DERIVED. GIVEN WITH THE SEED: THE CARDS: each row of YtompijgfpeibnaaGreatDoorRows.lean that lists a variable, with what it lists TIED to the program's text (the seventh form; the later family's looks); each row that meets fmt, with fmt's text TOLD by the authors' own Lean function (tested against real Go, not proved from fmt's source: count such statements apart). THE CARD IS WHAT COUNTS. Prove the row's statement (the work); the ties are given (YtompijgfpeibnaaGreatDoorTie.lean); close each card by the builder's one call (the guide's Derived/Test/ToyasCard.lean, 'card_holds'). Laid BY PROGRAM, IN A SANDBOX (cutbox-door.mjs). By AI agents, Wed Nov 11 2026. No macro, syntax, notation, axiom, sorry.
-/
import Derived.Test.YtompijgfpeibnaaGreatDoorRows
import GoSem.ClaimSeven
namespace Go.Proofs.YtompijgfpeibnaaGreatDoor
namespace Rows

/-- THE TIED CARD OF 'laws.FnConfirms'. -/
def fnConfirmsCard : Claim7 := { stood := { row := fnConfirmsRow, standIns := [], harness := (true, "f872a5b05f51f6135be8e9d9e997e28e755eade98e59a0d7bf9b1e1805ae0543"), looks := true }, kinds := [], alts := [], laidByText := true, laidKinds := [.data, .data, .data, .data, .sentinel, .sentinel, .pinned], laidTests := true, laidLooks := .later }
def FnConfirmsCardSaid : Prop := Claim7.holds Tryz.pinned (.plain (OpenSpec.ofChange fnConfirmsSpec)) fnConfirmsCard

/-- THE TIED CARD OF 'laws.FnConsole'. -/
def fnConsoleCard : Claim7 := { stood := { row := fnConsoleRow, standIns := [], harness := (true, "f872a5b05f51f6135be8e9d9e997e28e755eade98e59a0d7bf9b1e1805ae0543"), looks := true }, kinds := [], alts := [], laidByText := true, laidKinds := [.data, .data, .data, .data, .sentinel, .sentinel, .pinned], laidTests := true, laidLooks := .later }
def FnConsoleCardSaid : Prop := Claim7.holds Tryz.pinned (.plain (OpenSpec.ofChange fnConsoleSpec)) fnConsoleCard

/-- THE SECOND FORM's CARD OF 'laws.FnConfirms'. -/
def fnConfirmsUptoCard : Claim7 := { stood := { row := fnConfirmsUptoRow, standIns := [], harness := (true, "f872a5b05f51f6135be8e9d9e997e28e755eade98e59a0d7bf9b1e1805ae0543"), looks := true }, kinds := [], alts := [], laidByText := true, laidKinds := [.data, .data, .data, .data, .sentinel, .sentinel, .pinned], laidTests := true, laidLooks := .later }
def FnConfirmsUptoCardSaid : Prop := Claim7.holds Tryz.pinned (.plain (OpenSpec.upto fnConfirmsSpec)) fnConfirmsUptoCard

/-- THE SECOND FORM's CARD OF 'laws.FnConsole'. -/
def fnConsoleUptoCard : Claim7 := { stood := { row := fnConsoleUptoRow, standIns := [], harness := (true, "f872a5b05f51f6135be8e9d9e997e28e755eade98e59a0d7bf9b1e1805ae0543"), looks := true }, kinds := [], alts := [], laidByText := true, laidKinds := [.data, .data, .data, .data, .sentinel, .sentinel, .pinned], laidTests := true, laidLooks := .later }
def FnConsoleUptoCardSaid : Prop := Claim7.holds Tryz.pinned (.plain (OpenSpec.upto fnConsoleSpec)) fnConsoleUptoCard
end Rows
end Go.Proofs.YtompijgfpeibnaaGreatDoor
