/-
  DERIVED. GIVEN WITH THE SEED: THE CARDS: each row of YtiieikknhheffaaDoorRows.lean that lists a variable, with what it lists TIED to the program's text (the seventh form; the later family's looks); each row that meets fmt, with fmt's text TOLD by the authors' own Lean function (tested against real Go, not proved from fmt's source: count such statements apart). THE CARD IS WHAT COUNTS. Prove the row's statement (the work); the ties are given (YtiieikknhheffaaDoorTie.lean); close each card by the builder's one call (the guide's Derived/Test/ToyasCard.lean, 'card_holds'). Laid BY PROGRAM, IN A SANDBOX (cutbox-door.mjs). By AI agents, Wed Nov 11 2026. No macro, syntax, notation, axiom, sorry.
-/
import Derived.Test.YtiieikknhheffaaDoorRows
import GoSem.ClaimSeven
namespace Go.Proofs.YtiieikknhheffaaDoor
namespace Rows

/-- THE TIED CARD OF 'laws.FnExactSeatLine'. -/
def fnExactSeatLineCard : Claim7 := { stood := { row := fnExactSeatLineRow, standIns := [], harness := (true, "e8ccc88e30dbeb69147657dc6c78c2ccf39d380665fe642f43799ef630c9b2bb"), looks := false }, kinds := [], alts := [], laidByText := true, laidKinds := [.data, .data, .data], laidTests := true, laidLooks := .later }
def FnExactSeatLineCardSaid : Prop := Claim7.holds Tryd.pinned (.plain (OpenSpec.ofChange fnExactSeatLineSpec)) fnExactSeatLineCard

/-- THE SECOND FORM's CARD OF 'laws.FnExactSeatLine'. -/
def fnExactSeatLineUptoCard : Claim7 := { stood := { row := fnExactSeatLineUptoRow, standIns := [], harness := (true, "e8ccc88e30dbeb69147657dc6c78c2ccf39d380665fe642f43799ef630c9b2bb"), looks := false }, kinds := [], alts := [], laidByText := true, laidKinds := [.data, .data, .data], laidTests := true, laidLooks := .later }
def FnExactSeatLineUptoCardSaid : Prop := Claim7.holds Tryd.pinned (.plain (OpenSpec.upto fnExactSeatLineSpec)) fnExactSeatLineUptoCard
end Rows
end Go.Proofs.YtiieikknhheffaaDoor
