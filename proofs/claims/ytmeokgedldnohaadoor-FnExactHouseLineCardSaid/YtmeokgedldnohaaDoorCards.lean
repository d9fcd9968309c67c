/-
  DERIVED. GIVEN WITH THE SEED: THE CARDS: each row of YtmeokgedldnohaaDoorRows.lean that lists a variable, with what it lists TIED to the program's text (the seventh form; the later family's looks); each row that meets fmt, with fmt's text TOLD by the authors' own Lean function (tested against real Go, not proved from fmt's source: count such statements apart). THE CARD IS WHAT COUNTS. Prove the row's statement (the work); the ties are given (YtmeokgedldnohaaDoorTie.lean); close each card by the builder's one call (the guide's Derived/Test/ToyasCard.lean, 'card_holds'). Laid BY PROGRAM, IN A SANDBOX (cutbox-door.mjs). By AI agents, Wed Nov 11 2026. No macro, syntax, notation, axiom, sorry.
-/
import Derived.Test.YtmeokgedldnohaaDoorRows
import GoSem.ClaimSeven
namespace Go.Proofs.YtmeokgedldnohaaDoor
namespace Rows

/-- THE TIED CARD OF 'laws.FnExactHouseLine'. -/
def fnExactHouseLineCard : Claim7 := { stood := { row := fnExactHouseLineRow, standIns := [], harness := (true, "36bdb8c7e0b8c6c827c2324c18ec9739ae9a096ed717aba4d12bf9bb715bea86"), looks := true }, kinds := [], alts := [], laidByText := true, laidKinds := [.data, .data, .data], laidTests := true, laidLooks := .later }
def FnExactHouseLineCardSaid : Prop := Claim7.holds Tryd.pinned (.plain (OpenSpec.ofChange fnExactHouseLineSpec)) fnExactHouseLineCard

/-- THE TIED CARD OF 'laws.FnExactGoodsLine'. -/
def fnExactGoodsLineCard : Claim7 := { stood := { row := fnExactGoodsLineRow, standIns := [], harness := (true, "36bdb8c7e0b8c6c827c2324c18ec9739ae9a096ed717aba4d12bf9bb715bea86"), looks := true }, kinds := [], alts := [], laidByText := true, laidKinds := [.data, .data, .data], laidTests := true, laidLooks := .later }
def FnExactGoodsLineCardSaid : Prop := Claim7.holds Tryd.pinned (.plain (OpenSpec.ofChange fnExactGoodsLineSpec)) fnExactGoodsLineCard

/-- THE TIED CARD OF 'laws.FnExactParseNumbers'. -/
def fnExactParseNumbersCard : Claim7 := { stood := { row := fnExactParseNumbersRow, standIns := [], harness := (true, "36bdb8c7e0b8c6c827c2324c18ec9739ae9a096ed717aba4d12bf9bb715bea86"), looks := true }, kinds := [], alts := [], laidByText := true, laidKinds := [.data, .data, .data, .data, .sentinel, .sentinel, .pinned], laidTests := true, laidLooks := .later }
def FnExactParseNumbersCardSaid : Prop := Claim7.holds Tryd.pinned (.plain (OpenSpec.ofChange fnExactParseNumbersSpec)) fnExactParseNumbersCard

/-- THE TIED CARD OF 'laws.FnExactParseTable'. -/
def fnExactParseTableCard : Claim7 := { stood := { row := fnExactParseTableRow, standIns := [], harness := (true, "36bdb8c7e0b8c6c827c2324c18ec9739ae9a096ed717aba4d12bf9bb715bea86"), looks := true }, kinds := [], alts := [], laidByText := true, laidKinds := [.data, .data, .data, .data, .sentinel, .sentinel, .pinned], laidTests := true, laidLooks := .later }
def FnExactParseTableCardSaid : Prop := Claim7.holds Tryd.pinned (.plain (OpenSpec.ofChange fnExactParseTableSpec)) fnExactParseTableCard

/-- THE TIED CARD OF 'laws.FnExactMarriageLine'. -/
def fnExactMarriageLineCard : Claim7 := { stood := { row := fnExactMarriageLineRow, standIns := [], harness := (true, "36bdb8c7e0b8c6c827c2324c18ec9739ae9a096ed717aba4d12bf9bb715bea86"), looks := true }, kinds := [], alts := [], laidByText := true, laidKinds := [.data, .data, .data], laidTests := true, laidLooks := .later }
def FnExactMarriageLineCardSaid : Prop := Claim7.holds Tryd.pinned (.plain (OpenSpec.ofChange fnExactMarriageLineSpec)) fnExactMarriageLineCard

/-- THE TIED CARD OF 'laws.FnExactSeatLine'. -/
def fnExactSeatLineCard : Claim7 := { stood := { row := fnExactSeatLineRow, standIns := [], harness := (true, "36bdb8c7e0b8c6c827c2324c18ec9739ae9a096ed717aba4d12bf9bb715bea86"), looks := true }, kinds := [], alts := [], laidByText := true, laidKinds := [.data, .data, .data], laidTests := true, laidLooks := .later }
def FnExactSeatLineCardSaid : Prop := Claim7.holds Tryd.pinned (.plain (OpenSpec.ofChange fnExactSeatLineSpec)) fnExactSeatLineCard

/-- THE SECOND FORM's CARD OF 'laws.FnExactHouseLine'. -/
def fnExactHouseLineUptoCard : Claim7 := { stood := { row := fnExactHouseLineUptoRow, standIns := [], harness := (true, "36bdb8c7e0b8c6c827c2324c18ec9739ae9a096ed717aba4d12bf9bb715bea86"), looks := true }, kinds := [], alts := [], laidByText := true, laidKinds := [.data, .data, .data], laidTests := true, laidLooks := .later }
def FnExactHouseLineUptoCardSaid : Prop := Claim7.holds Tryd.pinned (.plain (OpenSpec.upto fnExactHouseLineSpec)) fnExactHouseLineUptoCard

/-- THE SECOND FORM's CARD OF 'laws.FnExactGoodsLine'. -/
def fnExactGoodsLineUptoCard : Claim7 := { stood := { row := fnExactGoodsLineUptoRow, standIns := [], harness := (true, "36bdb8c7e0b8c6c827c2324c18ec9739ae9a096ed717aba4d12bf9bb715bea86"), looks := true }, kinds := [], alts := [], laidByText := true, laidKinds := [.data, .data, .data], laidTests := true, laidLooks := .later }
def FnExactGoodsLineUptoCardSaid : Prop := Claim7.holds Tryd.pinned (.plain (OpenSpec.upto fnExactGoodsLineSpec)) fnExactGoodsLineUptoCard

/-- THE SECOND FORM's CARD OF 'laws.FnExactParseNumbers'. -/
def fnExactParseNumbersUptoCard : Claim7 := { stood := { row := fnExactParseNumbersUptoRow, standIns := [], harness := (true, "36bdb8c7e0b8c6c827c2324c18ec9739ae9a096ed717aba4d12bf9bb715bea86"), looks := true }, kinds := [], alts := [], laidByText := true, laidKinds := [.data, .data, .data, .data, .sentinel, .sentinel, .pinned], laidTests := true, laidLooks := .later }
def FnExactParseNumbersUptoCardSaid : Prop := Claim7.holds Tryd.pinned (.plain (OpenSpec.upto fnExactParseNumbersSpec)) fnExactParseNumbersUptoCard

/-- THE SECOND FORM's CARD OF 'laws.FnExactParseTable'. -/
def fnExactParseTableUptoCard : Claim7 := { stood := { row := fnExactParseTableUptoRow, standIns := [], harness := (true, "36bdb8c7e0b8c6c827c2324c18ec9739ae9a096ed717aba4d12bf9bb715bea86"), looks := true }, kinds := [], alts := [], laidByText := true, laidKinds := [.data, .data, .data, .data, .sentinel, .sentinel, .pinned], laidTests := true, laidLooks := .later }
def FnExactParseTableUptoCardSaid : Prop := Claim7.holds Tryd.pinned (.plain (OpenSpec.upto fnExactParseTableSpec)) fnExactParseTableUptoCard

/-- THE SECOND FORM's CARD OF 'laws.FnExactMarriageLine'. -/
def fnExactMarriageLineUptoCard : Claim7 := { stood := { row := fnExactMarriageLineUptoRow, standIns := [], harness := (true, "36bdb8c7e0b8c6c827c2324c18ec9739ae9a096ed717aba4d12bf9bb715bea86"), looks := true }, kinds := [], alts := [], laidByText := true, laidKinds := [.data, .data, .data], laidTests := true, laidLooks := .later }
def FnExactMarriageLineUptoCardSaid : Prop := Claim7.holds Tryd.pinned (.plain (OpenSpec.upto fnExactMarriageLineSpec)) fnExactMarriageLineUptoCard

/-- THE SECOND FORM's CARD OF 'laws.FnExactSeatLine'. -/
def fnExactSeatLineUptoCard : Claim7 := { stood := { row := fnExactSeatLineUptoRow, standIns := [], harness := (true, "36bdb8c7e0b8c6c827c2324c18ec9739ae9a096ed717aba4d12bf9bb715bea86"), looks := true }, kinds := [], alts := [], laidByText := true, laidKinds := [.data, .data, .data], laidTests := true, laidLooks := .later }
def FnExactSeatLineUptoCardSaid : Prop := Claim7.holds Tryd.pinned (.plain (OpenSpec.upto fnExactSeatLineSpec)) fnExactSeatLineUptoCard
end Rows
end Go.Proofs.YtmeokgedldnohaaDoor
