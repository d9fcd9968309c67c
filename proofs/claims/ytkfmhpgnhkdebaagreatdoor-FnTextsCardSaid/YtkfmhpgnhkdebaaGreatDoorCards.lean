/-
  DERIVED. GIVEN WITH THE SEED: THE CARDS: each row of YtkfmhpgnhkdebaaGreatDoorRows.lean that lists a variable, with what it lists TIED to the program's text (the seventh form; the later family's looks); each row that meets fmt, with fmt's text TOLD by the authors' own Lean function (tested against real Go, not proved from fmt's source: count such statements apart). THE CARD IS WHAT COUNTS. Prove the row's statement (the work); the ties are given (YtkfmhpgnhkdebaaGreatDoorTie.lean); close each card by the builder's one call (the guide's Derived/Test/ToyasCard.lean, 'card_holds'). Laid BY PROGRAM, IN A SANDBOX (cutbox-door.mjs). By AI agents, Wed Nov 11 2026. No macro, syntax, notation, axiom, sorry.
-/
import Derived.Test.YtkfmhpgnhkdebaaGreatDoorRows
import GoSem.ClaimSeven
namespace Go.Proofs.YtkfmhpgnhkdebaaGreatDoor
namespace Rows

/-- THE TIED CARD OF 'laws.FnExactProfileLine'. -/
def fnExactProfileLineCard : Claim7 := { stood := { row := fnExactProfileLineRow, standIns := [], harness := (true, "71fd6e22bfb7d23a46bd67a59bc28977facfcbec56a3b95543416b80a5eb1cdd"), looks := true }, kinds := [], alts := [], laidByText := true, laidKinds := [.data, .data, .data], laidTests := true, laidLooks := .later }
def FnExactProfileLineCardSaid : Prop := Claim7.holds Tryz.pinned (.plain (OpenSpec.ofChange fnExactProfileLineSpec)) fnExactProfileLineCard

/-- THE TIED CARD OF 'laws.FnReports'. -/
def fnReportsCard : Claim7 := { stood := { row := fnReportsRow, standIns := [], harness := (true, "71fd6e22bfb7d23a46bd67a59bc28977facfcbec56a3b95543416b80a5eb1cdd"), looks := true }, kinds := [], alts := [], laidByText := true, laidKinds := [.data, .data, .data], laidTests := true, laidLooks := .later }
def FnReportsCardSaid : Prop := Claim7.holds Tryz.pinned (.plain (OpenSpec.ofChange fnReportsSpec)) fnReportsCard

/-- THE TIED CARD OF 'laws.FnLotteries'. -/
def fnLotteriesCard : Claim7 := { stood := { row := fnLotteriesRow, standIns := [], harness := (true, "71fd6e22bfb7d23a46bd67a59bc28977facfcbec56a3b95543416b80a5eb1cdd"), looks := true }, kinds := [], alts := [], laidByText := true, laidKinds := [.data, .data, .data], laidTests := true, laidLooks := .later }
def FnLotteriesCardSaid : Prop := Claim7.holds Tryz.pinned (.plain (OpenSpec.ofChange fnLotteriesSpec)) fnLotteriesCard

/-- THE TIED CARD OF 'laws.FnTexts'. -/
def fnTextsCard : Claim7 := { stood := { row := fnTextsRow, standIns := [], harness := (true, "71fd6e22bfb7d23a46bd67a59bc28977facfcbec56a3b95543416b80a5eb1cdd"), looks := true }, kinds := [], alts := [], laidByText := true, laidKinds := [.data, .data, .data, .data, .sentinel, .sentinel, .pinned], laidTests := true, laidLooks := .later }
def FnTextsCardSaid : Prop := Claim7.holds Tryz.pinned (.plain (OpenSpec.ofChange fnTextsSpec)) fnTextsCard

/-- THE TIED CARD OF 'laws.FnExactNewConsole'. -/
def fnExactNewConsoleCard : Claim7 := { stood := { row := fnExactNewConsoleRow, standIns := [], harness := (true, "71fd6e22bfb7d23a46bd67a59bc28977facfcbec56a3b95543416b80a5eb1cdd"), looks := true }, kinds := [], alts := [], laidByText := true, laidKinds := [.data, .data, .data, .data, .sentinel, .sentinel, .pinned], laidTests := true, laidLooks := .later }
def FnExactNewConsoleCardSaid : Prop := Claim7.holds Tryz.pinned (.plain (OpenSpec.ofChange fnExactNewConsoleSpec)) fnExactNewConsoleCard

/-- THE SECOND FORM's CARD OF 'laws.FnExactProfileLine'. -/
def fnExactProfileLineUptoCard : Claim7 := { stood := { row := fnExactProfileLineUptoRow, standIns := [], harness := (true, "71fd6e22bfb7d23a46bd67a59bc28977facfcbec56a3b95543416b80a5eb1cdd"), looks := true }, kinds := [], alts := [], laidByText := true, laidKinds := [.data, .data, .data], laidTests := true, laidLooks := .later }
def FnExactProfileLineUptoCardSaid : Prop := Claim7.holds Tryz.pinned (.plain (OpenSpec.upto fnExactProfileLineSpec)) fnExactProfileLineUptoCard

/-- THE SECOND FORM's CARD OF 'laws.FnReports'. -/
def fnReportsUptoCard : Claim7 := { stood := { row := fnReportsUptoRow, standIns := [], harness := (true, "71fd6e22bfb7d23a46bd67a59bc28977facfcbec56a3b95543416b80a5eb1cdd"), looks := true }, kinds := [], alts := [], laidByText := true, laidKinds := [.data, .data, .data], laidTests := true, laidLooks := .later }
def FnReportsUptoCardSaid : Prop := Claim7.holds Tryz.pinned (.plain (OpenSpec.upto fnReportsSpec)) fnReportsUptoCard

/-- THE SECOND FORM's CARD OF 'laws.FnLotteries'. -/
def fnLotteriesUptoCard : Claim7 := { stood := { row := fnLotteriesUptoRow, standIns := [], harness := (true, "71fd6e22bfb7d23a46bd67a59bc28977facfcbec56a3b95543416b80a5eb1cdd"), looks := true }, kinds := [], alts := [], laidByText := true, laidKinds := [.data, .data, .data], laidTests := true, laidLooks := .later }
def FnLotteriesUptoCardSaid : Prop := Claim7.holds Tryz.pinned (.plain (OpenSpec.upto fnLotteriesSpec)) fnLotteriesUptoCard

/-- THE SECOND FORM's CARD OF 'laws.FnTexts'. -/
def fnTextsUptoCard : Claim7 := { stood := { row := fnTextsUptoRow, standIns := [], harness := (true, "71fd6e22bfb7d23a46bd67a59bc28977facfcbec56a3b95543416b80a5eb1cdd"), looks := true }, kinds := [], alts := [], laidByText := true, laidKinds := [.data, .data, .data, .data, .sentinel, .sentinel, .pinned], laidTests := true, laidLooks := .later }
def FnTextsUptoCardSaid : Prop := Claim7.holds Tryz.pinned (.plain (OpenSpec.upto fnTextsSpec)) fnTextsUptoCard

/-- THE SECOND FORM's CARD OF 'laws.FnExactNewConsole'. -/
def fnExactNewConsoleUptoCard : Claim7 := { stood := { row := fnExactNewConsoleUptoRow, standIns := [], harness := (true, "71fd6e22bfb7d23a46bd67a59bc28977facfcbec56a3b95543416b80a5eb1cdd"), looks := true }, kinds := [], alts := [], laidByText := true, laidKinds := [.data, .data, .data, .data, .sentinel, .sentinel, .pinned], laidTests := true, laidLooks := .later }
def FnExactNewConsoleUptoCardSaid : Prop := Claim7.holds Tryz.pinned (.plain (OpenSpec.upto fnExactNewConsoleSpec)) fnExactNewConsoleUptoCard
end Rows
end Go.Proofs.YtkfmhpgnhkdebaaGreatDoor
