/-
  DERIVED. GIVEN WITH THE SEED: THE CARDS: each row of YtpjejdebdhgngaaDoorRows.lean that lists a variable, with what it lists TIED to the program's text (the seventh form; the later family's looks); each row that meets fmt, with fmt's text TOLD by the authors' own Lean function (tested against real Go, not proved from fmt's source: count such statements apart). THE CARD IS WHAT COUNTS. Prove the row's statement (the work); the ties are given (YtpjejdebdhgngaaDoorTie.lean); close each card by the builder's one call (the guide's Derived/Test/ToyasCard.lean, 'card_holds'). Laid BY PROGRAM, IN A SANDBOX (cutbox-door.mjs). By AI agents, Wed Nov 11 2026. No macro, syntax, notation, axiom, sorry.
-/
import Derived.Test.YtpjejdebdhgngaaDoorRows
import GoSem.ClaimSeven
namespace Go.Proofs.YtpjejdebdhgngaaDoor
namespace Rows

/-- THE TIED CARD OF 'laws.FnExactFormatNumbers'. -/
def fnExactFormatNumbersCard : Claim7 := { stood := { row := fnExactFormatNumbersRow, standIns := [], harness := (true, "e866eae60a7b105c34e8098d76f1a42b625d8bf165dba0ce7bf4667721af7b7b"), looks := false }, kinds := [], alts := [], laidByText := true, laidKinds := [.data, .data, .data], laidTests := true, laidLooks := .later }
def FnExactFormatNumbersCardSaid : Prop := Claim7.holds Tryd.pinned (.plain (OpenSpec.ofChange fnExactFormatNumbersSpec)) fnExactFormatNumbersCard

/-- THE TIED CARD OF 'laws.FnExactFormatTable'. -/
def fnExactFormatTableCard : Claim7 := { stood := { row := fnExactFormatTableRow, standIns := [], harness := (true, "e866eae60a7b105c34e8098d76f1a42b625d8bf165dba0ce7bf4667721af7b7b"), looks := false }, kinds := [], alts := [], laidByText := true, laidKinds := [.data, .data, .data], laidTests := true, laidLooks := .later }
def FnExactFormatTableCardSaid : Prop := Claim7.holds Tryd.pinned (.plain (OpenSpec.ofChange fnExactFormatTableSpec)) fnExactFormatTableCard

/-- THE TIED CARD OF 'laws.FnExactFormatFractions'. -/
def fnExactFormatFractionsCard : Claim7 := { stood := { row := fnExactFormatFractionsRow, standIns := [], harness := (true, "e866eae60a7b105c34e8098d76f1a42b625d8bf165dba0ce7bf4667721af7b7b"), looks := false }, kinds := [], alts := [], laidByText := true, laidKinds := [.data, .data, .data], laidTests := true, laidLooks := .later }
def FnExactFormatFractionsCardSaid : Prop := Claim7.holds Tryd.pinned (.plain (OpenSpec.ofChange fnExactFormatFractionsSpec)) fnExactFormatFractionsCard

/-- THE TIED CARD OF 'laws.FnExactFormatLottery'. -/
def fnExactFormatLotteryCard : Claim7 := { stood := { row := fnExactFormatLotteryRow, standIns := [], harness := (true, "e866eae60a7b105c34e8098d76f1a42b625d8bf165dba0ce7bf4667721af7b7b"), looks := false }, kinds := [], alts := [], laidByText := true, laidKinds := [.data, .data, .data], laidTests := true, laidLooks := .later }
def FnExactFormatLotteryCardSaid : Prop := Claim7.holds Tryd.pinned (.plain (OpenSpec.ofChange fnExactFormatLotterySpec)) fnExactFormatLotteryCard

/-- THE TIED CARD OF 'laws.FnExactAuctionLine'. -/
def fnExactAuctionLineCard : Claim7 := { stood := { row := fnExactAuctionLineRow, standIns := [], harness := (true, "e866eae60a7b105c34e8098d76f1a42b625d8bf165dba0ce7bf4667721af7b7b"), looks := false }, kinds := [], alts := [], laidByText := true, laidKinds := [.data, .data, .data], laidTests := true, laidLooks := .later }
def FnExactAuctionLineCardSaid : Prop := Claim7.holds Tryd.pinned (.plain (OpenSpec.ofChange fnExactAuctionLineSpec)) fnExactAuctionLineCard

/-- THE SECOND FORM's CARD OF 'laws.FnExactFormatNumbers'. -/
def fnExactFormatNumbersUptoCard : Claim7 := { stood := { row := fnExactFormatNumbersUptoRow, standIns := [], harness := (true, "e866eae60a7b105c34e8098d76f1a42b625d8bf165dba0ce7bf4667721af7b7b"), looks := false }, kinds := [], alts := [], laidByText := true, laidKinds := [.data, .data, .data], laidTests := true, laidLooks := .later }
def FnExactFormatNumbersUptoCardSaid : Prop := Claim7.holds Tryd.pinned (.plain (OpenSpec.upto fnExactFormatNumbersSpec)) fnExactFormatNumbersUptoCard

/-- THE SECOND FORM's CARD OF 'laws.FnExactFormatTable'. -/
def fnExactFormatTableUptoCard : Claim7 := { stood := { row := fnExactFormatTableUptoRow, standIns := [], harness := (true, "e866eae60a7b105c34e8098d76f1a42b625d8bf165dba0ce7bf4667721af7b7b"), looks := false }, kinds := [], alts := [], laidByText := true, laidKinds := [.data, .data, .data], laidTests := true, laidLooks := .later }
def FnExactFormatTableUptoCardSaid : Prop := Claim7.holds Tryd.pinned (.plain (OpenSpec.upto fnExactFormatTableSpec)) fnExactFormatTableUptoCard

/-- THE SECOND FORM's CARD OF 'laws.FnExactFormatFractions'. -/
def fnExactFormatFractionsUptoCard : Claim7 := { stood := { row := fnExactFormatFractionsUptoRow, standIns := [], harness := (true, "e866eae60a7b105c34e8098d76f1a42b625d8bf165dba0ce7bf4667721af7b7b"), looks := false }, kinds := [], alts := [], laidByText := true, laidKinds := [.data, .data, .data], laidTests := true, laidLooks := .later }
def FnExactFormatFractionsUptoCardSaid : Prop := Claim7.holds Tryd.pinned (.plain (OpenSpec.upto fnExactFormatFractionsSpec)) fnExactFormatFractionsUptoCard

/-- THE SECOND FORM's CARD OF 'laws.FnExactFormatLottery'. -/
def fnExactFormatLotteryUptoCard : Claim7 := { stood := { row := fnExactFormatLotteryUptoRow, standIns := [], harness := (true, "e866eae60a7b105c34e8098d76f1a42b625d8bf165dba0ce7bf4667721af7b7b"), looks := false }, kinds := [], alts := [], laidByText := true, laidKinds := [.data, .data, .data], laidTests := true, laidLooks := .later }
def FnExactFormatLotteryUptoCardSaid : Prop := Claim7.holds Tryd.pinned (.plain (OpenSpec.upto fnExactFormatLotterySpec)) fnExactFormatLotteryUptoCard

/-- THE SECOND FORM's CARD OF 'laws.FnExactAuctionLine'. -/
def fnExactAuctionLineUptoCard : Claim7 := { stood := { row := fnExactAuctionLineUptoRow, standIns := [], harness := (true, "e866eae60a7b105c34e8098d76f1a42b625d8bf165dba0ce7bf4667721af7b7b"), looks := false }, kinds := [], alts := [], laidByText := true, laidKinds := [.data, .data, .data], laidTests := true, laidLooks := .later }
def FnExactAuctionLineUptoCardSaid : Prop := Claim7.holds Tryd.pinned (.plain (OpenSpec.upto fnExactAuctionLineSpec)) fnExactAuctionLineUptoCard
end Rows
end Go.Proofs.YtpjejdebdhgngaaDoor
