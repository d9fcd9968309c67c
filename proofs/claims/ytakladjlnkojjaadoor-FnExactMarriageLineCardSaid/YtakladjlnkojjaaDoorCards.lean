/-
  DERIVED. GIVEN WITH THE SEED: THE CARDS: each row of YtakladjlnkojjaaDoorRows.lean that lists a variable, with what it lists TIED to the program's text (the seventh form; the later family's looks); each row that meets fmt, with fmt's text TOLD by the authors' own Lean function (tested against real Go, not proved from fmt's source: count such statements apart). THE CARD IS WHAT COUNTS. Prove the row's statement (the work); the ties are given (YtakladjlnkojjaaDoorTie.lean); close each card by the builder's one call (the guide's Derived/Test/ToyasCard.lean, 'card_holds'). Laid BY PROGRAM, IN A SANDBOX (cutbox-door.mjs). By AI agents, Wed Nov 11 2026. No macro, syntax, notation, axiom, sorry.
-/
import Derived.Test.YtakladjlnkojjaaDoorRows
import GoSem.ClaimSeven
namespace Go.Proofs.YtakladjlnkojjaaDoor
namespace Rows

/-- THE TIED CARD OF 'laws.FnExactGoodsLine'. -/
def fnExactGoodsLineCard : Claim7 := { stood := { row := fnExactGoodsLineRow, standIns := [], harness := (true, "ea1f6b24e5f5bb86e26a760730beee77c7a033b630e3c5abf2eda1c7d1983781"), looks := true }, kinds := [], alts := [], laidByText := true, laidKinds := [.data, .data, .data], laidTests := true, laidLooks := .later }
def FnExactGoodsLineCardSaid : Prop := Claim7.holds Tryd.pinned (.plain (OpenSpec.ofChange fnExactGoodsLineSpec)) fnExactGoodsLineCard

/-- THE TIED CARD OF 'laws.FnExactMarriageLine'. -/
def fnExactMarriageLineCard : Claim7 := { stood := { row := fnExactMarriageLineRow, standIns := [], harness := (true, "ea1f6b24e5f5bb86e26a760730beee77c7a033b630e3c5abf2eda1c7d1983781"), looks := true }, kinds := [], alts := [], laidByText := true, laidKinds := [.data, .data, .data], laidTests := true, laidLooks := .later }
def FnExactMarriageLineCardSaid : Prop := Claim7.holds Tryd.pinned (.plain (OpenSpec.ofChange fnExactMarriageLineSpec)) fnExactMarriageLineCard

/-- THE TIED CARD OF 'laws.FnExactParseNumbers'. -/
def fnExactParseNumbersCard : Claim7 := { stood := { row := fnExactParseNumbersRow, standIns := [], harness := (true, "ea1f6b24e5f5bb86e26a760730beee77c7a033b630e3c5abf2eda1c7d1983781"), looks := true }, kinds := [], alts := [], laidByText := true, laidKinds := [.data, .data, .data, .data, .sentinel, .sentinel, .pinned], laidTests := true, laidLooks := .later }
def FnExactParseNumbersCardSaid : Prop := Claim7.holds Tryd.pinned (.plain (OpenSpec.ofChange fnExactParseNumbersSpec)) fnExactParseNumbersCard

/-- THE TIED CARD OF 'laws.FnExactParseTable'. -/
def fnExactParseTableCard : Claim7 := { stood := { row := fnExactParseTableRow, standIns := [], harness := (true, "ea1f6b24e5f5bb86e26a760730beee77c7a033b630e3c5abf2eda1c7d1983781"), looks := true }, kinds := [], alts := [], laidByText := true, laidKinds := [.data, .data, .data, .data, .sentinel, .sentinel, .pinned], laidTests := true, laidLooks := .later }
def FnExactParseTableCardSaid : Prop := Claim7.holds Tryd.pinned (.plain (OpenSpec.ofChange fnExactParseTableSpec)) fnExactParseTableCard

/-- THE SECOND FORM's CARD OF 'laws.FnExactGoodsLine'. -/
def fnExactGoodsLineUptoCard : Claim7 := { stood := { row := fnExactGoodsLineUptoRow, standIns := [], harness := (true, "ea1f6b24e5f5bb86e26a760730beee77c7a033b630e3c5abf2eda1c7d1983781"), looks := true }, kinds := [], alts := [], laidByText := true, laidKinds := [.data, .data, .data], laidTests := true, laidLooks := .later }
def FnExactGoodsLineUptoCardSaid : Prop := Claim7.holds Tryd.pinned (.plain (OpenSpec.upto fnExactGoodsLineSpec)) fnExactGoodsLineUptoCard

/-- THE SECOND FORM's CARD OF 'laws.FnExactMarriageLine'. -/
def fnExactMarriageLineUptoCard : Claim7 := { stood := { row := fnExactMarriageLineUptoRow, standIns := [], harness := (true, "ea1f6b24e5f5bb86e26a760730beee77c7a033b630e3c5abf2eda1c7d1983781"), looks := true }, kinds := [], alts := [], laidByText := true, laidKinds := [.data, .data, .data], laidTests := true, laidLooks := .later }
def FnExactMarriageLineUptoCardSaid : Prop := Claim7.holds Tryd.pinned (.plain (OpenSpec.upto fnExactMarriageLineSpec)) fnExactMarriageLineUptoCard

/-- THE SECOND FORM's CARD OF 'laws.FnExactParseNumbers'. -/
def fnExactParseNumbersUptoCard : Claim7 := { stood := { row := fnExactParseNumbersUptoRow, standIns := [], harness := (true, "ea1f6b24e5f5bb86e26a760730beee77c7a033b630e3c5abf2eda1c7d1983781"), looks := true }, kinds := [], alts := [], laidByText := true, laidKinds := [.data, .data, .data, .data, .sentinel, .sentinel, .pinned], laidTests := true, laidLooks := .later }
def FnExactParseNumbersUptoCardSaid : Prop := Claim7.holds Tryd.pinned (.plain (OpenSpec.upto fnExactParseNumbersSpec)) fnExactParseNumbersUptoCard

/-- THE SECOND FORM's CARD OF 'laws.FnExactParseTable'. -/
def fnExactParseTableUptoCard : Claim7 := { stood := { row := fnExactParseTableUptoRow, standIns := [], harness := (true, "ea1f6b24e5f5bb86e26a760730beee77c7a033b630e3c5abf2eda1c7d1983781"), looks := true }, kinds := [], alts := [], laidByText := true, laidKinds := [.data, .data, .data, .data, .sentinel, .sentinel, .pinned], laidTests := true, laidLooks := .later }
def FnExactParseTableUptoCardSaid : Prop := Claim7.holds Tryd.pinned (.plain (OpenSpec.upto fnExactParseTableSpec)) fnExactParseTableUptoCard
end Rows
end Go.Proofs.YtakladjlnkojjaaDoor
