/-
  DERIVED. GIVEN WITH THE SEED: THE CARDS: each row of YtlkgppincgpfjaaDoorRows.lean that lists a variable, with what it lists TIED to the program's text (the seventh form; the later family's looks); each row that meets fmt, with fmt's text TOLD by the authors' own Lean function (tested against real Go, not proved from fmt's source: count such statements apart). THE CARD IS WHAT COUNTS. Prove the row's statement (the work); the ties are given (YtlkgppincgpfjaaDoorTie.lean); close each card by the builder's one call (the guide's Derived/Test/ToyasCard.lean, 'card_holds'). Laid BY PROGRAM, IN A SANDBOX (cutbox-door.mjs). By AI agents, Wed Nov 11 2026. No macro, syntax, notation, axiom, sorry.
-/
import Derived.Test.YtlkgppincgpfjaaDoorRows
import GoSem.ClaimSeven
namespace Go.Proofs.YtlkgppincgpfjaaDoor
namespace Rows

/-- THE TIED CARD OF 'laws.FnExactRentLine'. -/
def fnExactRentLineCard : Claim7 := { stood := { row := fnExactRentLineRow, standIns := [], harness := (true, "5d9b98d807c8b0f4400754155dd3e923843c9abe7ddf3a4a203701addaa78f32"), looks := false }, kinds := [], alts := [], laidByText := true, laidKinds := [.data, .data, .data], laidTests := true, laidLooks := .later }
def FnExactRentLineCardSaid : Prop := Claim7.holds Tryd.pinned (.plain (OpenSpec.ofChange fnExactRentLineSpec)) fnExactRentLineCard

/-- THE TIED CARD OF 'laws.FnExactHouseLine'. -/
def fnExactHouseLineCard : Claim7 := { stood := { row := fnExactHouseLineRow, standIns := [], harness := (true, "5d9b98d807c8b0f4400754155dd3e923843c9abe7ddf3a4a203701addaa78f32"), looks := false }, kinds := [], alts := [], laidByText := true, laidKinds := [.data, .data, .data], laidTests := true, laidLooks := .later }
def FnExactHouseLineCardSaid : Prop := Claim7.holds Tryd.pinned (.plain (OpenSpec.ofChange fnExactHouseLineSpec)) fnExactHouseLineCard

/-- THE TIED CARD OF 'laws.FnExactAuctionLine'. -/
def fnExactAuctionLineCard : Claim7 := { stood := { row := fnExactAuctionLineRow, standIns := [], harness := (true, "5d9b98d807c8b0f4400754155dd3e923843c9abe7ddf3a4a203701addaa78f32"), looks := false }, kinds := [], alts := [], laidByText := true, laidKinds := [.data, .data, .data], laidTests := true, laidLooks := .later }
def FnExactAuctionLineCardSaid : Prop := Claim7.holds Tryd.pinned (.plain (OpenSpec.ofChange fnExactAuctionLineSpec)) fnExactAuctionLineCard

/-- THE TIED CARD OF 'laws.FnExactFormatFractions'. -/
def fnExactFormatFractionsCard : Claim7 := { stood := { row := fnExactFormatFractionsRow, standIns := [], harness := (true, "5d9b98d807c8b0f4400754155dd3e923843c9abe7ddf3a4a203701addaa78f32"), looks := false }, kinds := [], alts := [], laidByText := true, laidKinds := [.data, .data, .data], laidTests := true, laidLooks := .later }
def FnExactFormatFractionsCardSaid : Prop := Claim7.holds Tryd.pinned (.plain (OpenSpec.ofChange fnExactFormatFractionsSpec)) fnExactFormatFractionsCard

/-- THE TIED CARD OF 'laws.FnExactFormatLottery'. -/
def fnExactFormatLotteryCard : Claim7 := { stood := { row := fnExactFormatLotteryRow, standIns := [], harness := (true, "5d9b98d807c8b0f4400754155dd3e923843c9abe7ddf3a4a203701addaa78f32"), looks := false }, kinds := [], alts := [], laidByText := true, laidKinds := [.data, .data, .data], laidTests := true, laidLooks := .later }
def FnExactFormatLotteryCardSaid : Prop := Claim7.holds Tryd.pinned (.plain (OpenSpec.ofChange fnExactFormatLotterySpec)) fnExactFormatLotteryCard

/-- THE TIED CARD OF 'laws.FnExactFormatNumbers'. -/
def fnExactFormatNumbersCard : Claim7 := { stood := { row := fnExactFormatNumbersRow, standIns := [], harness := (true, "5d9b98d807c8b0f4400754155dd3e923843c9abe7ddf3a4a203701addaa78f32"), looks := false }, kinds := [], alts := [], laidByText := true, laidKinds := [.data, .data, .data], laidTests := true, laidLooks := .later }
def FnExactFormatNumbersCardSaid : Prop := Claim7.holds Tryd.pinned (.plain (OpenSpec.ofChange fnExactFormatNumbersSpec)) fnExactFormatNumbersCard

/-- THE TIED CARD OF 'laws.FnExactFormatTable'. -/
def fnExactFormatTableCard : Claim7 := { stood := { row := fnExactFormatTableRow, standIns := [], harness := (true, "5d9b98d807c8b0f4400754155dd3e923843c9abe7ddf3a4a203701addaa78f32"), looks := false }, kinds := [], alts := [], laidByText := true, laidKinds := [.data, .data, .data], laidTests := true, laidLooks := .later }
def FnExactFormatTableCardSaid : Prop := Claim7.holds Tryd.pinned (.plain (OpenSpec.ofChange fnExactFormatTableSpec)) fnExactFormatTableCard

/-- THE SECOND FORM's CARD OF 'laws.FnExactRentLine'. -/
def fnExactRentLineUptoCard : Claim7 := { stood := { row := fnExactRentLineUptoRow, standIns := [], harness := (true, "5d9b98d807c8b0f4400754155dd3e923843c9abe7ddf3a4a203701addaa78f32"), looks := false }, kinds := [], alts := [], laidByText := true, laidKinds := [.data, .data, .data], laidTests := true, laidLooks := .later }
def FnExactRentLineUptoCardSaid : Prop := Claim7.holds Tryd.pinned (.plain (OpenSpec.upto fnExactRentLineSpec)) fnExactRentLineUptoCard

/-- THE SECOND FORM's CARD OF 'laws.FnExactHouseLine'. -/
def fnExactHouseLineUptoCard : Claim7 := { stood := { row := fnExactHouseLineUptoRow, standIns := [], harness := (true, "5d9b98d807c8b0f4400754155dd3e923843c9abe7ddf3a4a203701addaa78f32"), looks := false }, kinds := [], alts := [], laidByText := true, laidKinds := [.data, .data, .data], laidTests := true, laidLooks := .later }
def FnExactHouseLineUptoCardSaid : Prop := Claim7.holds Tryd.pinned (.plain (OpenSpec.upto fnExactHouseLineSpec)) fnExactHouseLineUptoCard

/-- THE SECOND FORM's CARD OF 'laws.FnExactAuctionLine'. -/
def fnExactAuctionLineUptoCard : Claim7 := { stood := { row := fnExactAuctionLineUptoRow, standIns := [], harness := (true, "5d9b98d807c8b0f4400754155dd3e923843c9abe7ddf3a4a203701addaa78f32"), looks := false }, kinds := [], alts := [], laidByText := true, laidKinds := [.data, .data, .data], laidTests := true, laidLooks := .later }
def FnExactAuctionLineUptoCardSaid : Prop := Claim7.holds Tryd.pinned (.plain (OpenSpec.upto fnExactAuctionLineSpec)) fnExactAuctionLineUptoCard

/-- THE SECOND FORM's CARD OF 'laws.FnExactFormatFractions'. -/
def fnExactFormatFractionsUptoCard : Claim7 := { stood := { row := fnExactFormatFractionsUptoRow, standIns := [], harness := (true, "5d9b98d807c8b0f4400754155dd3e923843c9abe7ddf3a4a203701addaa78f32"), looks := false }, kinds := [], alts := [], laidByText := true, laidKinds := [.data, .data, .data], laidTests := true, laidLooks := .later }
def FnExactFormatFractionsUptoCardSaid : Prop := Claim7.holds Tryd.pinned (.plain (OpenSpec.upto fnExactFormatFractionsSpec)) fnExactFormatFractionsUptoCard

/-- THE SECOND FORM's CARD OF 'laws.FnExactFormatLottery'. -/
def fnExactFormatLotteryUptoCard : Claim7 := { stood := { row := fnExactFormatLotteryUptoRow, standIns := [], harness := (true, "5d9b98d807c8b0f4400754155dd3e923843c9abe7ddf3a4a203701addaa78f32"), looks := false }, kinds := [], alts := [], laidByText := true, laidKinds := [.data, .data, .data], laidTests := true, laidLooks := .later }
def FnExactFormatLotteryUptoCardSaid : Prop := Claim7.holds Tryd.pinned (.plain (OpenSpec.upto fnExactFormatLotterySpec)) fnExactFormatLotteryUptoCard

/-- THE SECOND FORM's CARD OF 'laws.FnExactFormatNumbers'. -/
def fnExactFormatNumbersUptoCard : Claim7 := { stood := { row := fnExactFormatNumbersUptoRow, standIns := [], harness := (true, "5d9b98d807c8b0f4400754155dd3e923843c9abe7ddf3a4a203701addaa78f32"), looks := false }, kinds := [], alts := [], laidByText := true, laidKinds := [.data, .data, .data], laidTests := true, laidLooks := .later }
def FnExactFormatNumbersUptoCardSaid : Prop := Claim7.holds Tryd.pinned (.plain (OpenSpec.upto fnExactFormatNumbersSpec)) fnExactFormatNumbersUptoCard

/-- THE SECOND FORM's CARD OF 'laws.FnExactFormatTable'. -/
def fnExactFormatTableUptoCard : Claim7 := { stood := { row := fnExactFormatTableUptoRow, standIns := [], harness := (true, "5d9b98d807c8b0f4400754155dd3e923843c9abe7ddf3a4a203701addaa78f32"), looks := false }, kinds := [], alts := [], laidByText := true, laidKinds := [.data, .data, .data], laidTests := true, laidLooks := .later }
def FnExactFormatTableUptoCardSaid : Prop := Claim7.holds Tryd.pinned (.plain (OpenSpec.upto fnExactFormatTableSpec)) fnExactFormatTableUptoCard
end Rows
end Go.Proofs.YtlkgppincgpfjaaDoor
