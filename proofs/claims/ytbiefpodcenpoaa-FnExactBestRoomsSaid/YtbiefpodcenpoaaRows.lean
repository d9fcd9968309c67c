/-
  No cell of these rows narrows 'for every input' (looked for: loops, veiled, ifaces, maps, wideKeys, modest, calm, conditions, laid).
  DERIVED. THE GIVEN ROWS OF THIS SEAT. 12 by the template 'for every input the law returns true; each argument reads behind the call as it read before'; 0 by the template 'total and deterministic' (their statements: YtbiefpodcenpoaaTotals.lean).
  GIVEN WITH THE SEED: the statements are not yours to turn. If you find one false, say at which input.
  Laid BY PROGRAM, IN A SANDBOX (cutbox-rows.mjs): the forced cells as the released guide's own fill.sh prints them over the translation 04fed1a431015cf3… (all of the seat's roots in one cut). By AI agents, Wed Nov 11 2026. No macro, syntax, notation, axiom, sorry.
-/
import Derived.Test.YtbiefpodcenpoaaChecked
import GoSem.Claim
import GoSem.ClaimJoined
import GoSem.ClaimMapViews
import Derived.JoinedTies
import Derived.KernelRfl
namespace Go.Proofs.Ytbiefpodcenpoaa
/- THE CELL 'sum', in the pinned program and in every row, IS THE sha256 OF THE DUMP (.gsa) THAT YtbiefpodcenpoaaProg.lean LOADS. Nothing in Lean hashes anything: it is a label: what it is worth is what the hold of that sum in a sandbox is worth. -/
noncomputable def Try.pinned : Pinned := { name := "ytbiefpodcenpoaa", sum := "04fed1a431015cf3af228026d201421bcefe4db7f7b067fbdf5aed448fe3a344", checked := Try.checked }
namespace Rows
def none {H : Type} : Left H := { results := [], args := [] }

/-- 'laws.FnExactIsFreeLottery': WHATEVER THE INPUT: true; the input reads as it did. -/
def fnExactIsFreeLotterySpec : ChangeSpec := { name := "fnExactIsFreeLottery", fn := fun _ => fun
  | [d1, d2] => { results := [.lit (.bool true)], args := [d1, d2] }
  | _ => none }
def fnExactIsFreeLotteryRow : OpenClaim := { program := "ytbiefpodcenpoaa", sum := "04fed1a431015cf3af228026d201421bcefe4db7f7b067fbdf5aed448fe3a344", func := "loop.example/g03202/laws.FnExactIsFreeLottery", spec := "fnExactIsFreeLottery", unfollowed := true, recurses := true, apart := false }
def FnExactIsFreeLotterySaid : Prop := fnExactIsFreeLotteryRow.holds Try.pinned (OpenSpec.ofChange fnExactIsFreeLotterySpec)

/-- ITS FALSE NEIGHBOUR: 'it returns false'. Refute it at one input. -/
def fnExactIsFreeLotteryWrong : ChangeSpec := { name := "fnExactIsFreeLottery", fn := fun _ => fun
  | [d1, d2] => { results := [.lit (.bool false)], args := [d1, d2] }
  | _ => none }
def FnExactIsFreeLotteryWrongFalsely : Prop := fnExactIsFreeLotteryRow.holds Try.pinned (OpenSpec.ofChange fnExactIsFreeLotteryWrong)

/-- 'laws.FnExactBestAward': WHATEVER THE INPUT: true; the input reads as it did. -/
def fnExactBestAwardSpec : ChangeSpec := { name := "fnExactBestAward", fn := fun _ => fun
  | [d] => { results := [.lit (.bool true)], args := [d] }
  | _ => none }
def fnExactBestAwardRow : OpenClaim := { program := "ytbiefpodcenpoaa", sum := "04fed1a431015cf3af228026d201421bcefe4db7f7b067fbdf5aed448fe3a344", func := "loop.example/g03202/laws.FnExactBestAward", spec := "fnExactBestAward", unfollowed := true, recurses := true, apart := false }
def FnExactBestAwardSaid : Prop := fnExactBestAwardRow.holds Try.pinned (OpenSpec.ofChange fnExactBestAwardSpec)

/-- ITS FALSE NEIGHBOUR: 'it returns false'. Refute it at one input. -/
def fnExactBestAwardWrong : ChangeSpec := { name := "fnExactBestAward", fn := fun _ => fun
  | [d] => { results := [.lit (.bool false)], args := [d] }
  | _ => none }
def FnExactBestAwardWrongFalsely : Prop := fnExactBestAwardRow.holds Try.pinned (OpenSpec.ofChange fnExactBestAwardWrong)

/-- 'laws.FnExactBestWorth': WHATEVER THE INPUT: true; the input reads as it did. -/
def fnExactBestWorthSpec : ChangeSpec := { name := "fnExactBestWorth", fn := fun _ => fun
  | [d] => { results := [.lit (.bool true)], args := [d] }
  | _ => none }
def fnExactBestWorthRow : OpenClaim := { program := "ytbiefpodcenpoaa", sum := "04fed1a431015cf3af228026d201421bcefe4db7f7b067fbdf5aed448fe3a344", func := "loop.example/g03202/laws.FnExactBestWorth", spec := "fnExactBestWorth", unfollowed := true, recurses := true, apart := false }
def FnExactBestWorthSaid : Prop := fnExactBestWorthRow.holds Try.pinned (OpenSpec.ofChange fnExactBestWorthSpec)

/-- ITS FALSE NEIGHBOUR: 'it returns false'. Refute it at one input. -/
def fnExactBestWorthWrong : ChangeSpec := { name := "fnExactBestWorth", fn := fun _ => fun
  | [d] => { results := [.lit (.bool false)], args := [d] }
  | _ => none }
def FnExactBestWorthWrongFalsely : Prop := fnExactBestWorthRow.holds Try.pinned (OpenSpec.ofChange fnExactBestWorthWrong)

/-- 'laws.FnExactWorthWithout': WHATEVER THE INPUT: true; the input reads as it did. -/
def fnExactWorthWithoutSpec : ChangeSpec := { name := "fnExactWorthWithout", fn := fun _ => fun
  | [d1, d2] => { results := [.lit (.bool true)], args := [d1, d2] }
  | _ => none }
def fnExactWorthWithoutRow : OpenClaim := { program := "ytbiefpodcenpoaa", sum := "04fed1a431015cf3af228026d201421bcefe4db7f7b067fbdf5aed448fe3a344", func := "loop.example/g03202/laws.FnExactWorthWithout", spec := "fnExactWorthWithout", unfollowed := true, recurses := true, apart := false }
def FnExactWorthWithoutSaid : Prop := fnExactWorthWithoutRow.holds Try.pinned (OpenSpec.ofChange fnExactWorthWithoutSpec)

/-- ITS FALSE NEIGHBOUR: 'it returns false'. Refute it at one input. -/
def fnExactWorthWithoutWrong : ChangeSpec := { name := "fnExactWorthWithout", fn := fun _ => fun
  | [d1, d2] => { results := [.lit (.bool false)], args := [d1, d2] }
  | _ => none }
def FnExactWorthWithoutWrongFalsely : Prop := fnExactWorthWithoutRow.holds Try.pinned (OpenSpec.ofChange fnExactWorthWithoutWrong)

/-- 'laws.FnExactPaymentsOf': WHATEVER THE INPUT: true; the input reads as it did. -/
def fnExactPaymentsOfSpec : ChangeSpec := { name := "fnExactPaymentsOf", fn := fun _ => fun
  | [d] => { results := [.lit (.bool true)], args := [d] }
  | _ => none }
def fnExactPaymentsOfRow : OpenClaim := { program := "ytbiefpodcenpoaa", sum := "04fed1a431015cf3af228026d201421bcefe4db7f7b067fbdf5aed448fe3a344", func := "loop.example/g03202/laws.FnExactPaymentsOf", spec := "fnExactPaymentsOf", unfollowed := true, recurses := true, apart := false }
def FnExactPaymentsOfSaid : Prop := fnExactPaymentsOfRow.holds Try.pinned (OpenSpec.ofChange fnExactPaymentsOfSpec)

/-- ITS FALSE NEIGHBOUR: 'it returns false'. Refute it at one input. -/
def fnExactPaymentsOfWrong : ChangeSpec := { name := "fnExactPaymentsOf", fn := fun _ => fun
  | [d] => { results := [.lit (.bool false)], args := [d] }
  | _ => none }
def FnExactPaymentsOfWrongFalsely : Prop := fnExactPaymentsOfRow.holds Try.pinned (OpenSpec.ofChange fnExactPaymentsOfWrong)

/-- 'laws.FnExactGainWith': WHATEVER THE INPUT: true; the input reads as it did. -/
def fnExactGainWithSpec : ChangeSpec := { name := "fnExactGainWith", fn := fun _ => fun
  | [d1, d2, d3] => { results := [.lit (.bool true)], args := [d1, d2, d3] }
  | _ => none }
def fnExactGainWithRow : OpenClaim := { program := "ytbiefpodcenpoaa", sum := "04fed1a431015cf3af228026d201421bcefe4db7f7b067fbdf5aed448fe3a344", func := "loop.example/g03202/laws.FnExactGainWith", spec := "fnExactGainWith", unfollowed := true, recurses := true, apart := false }
def FnExactGainWithSaid : Prop := fnExactGainWithRow.holds Try.pinned (OpenSpec.ofChange fnExactGainWithSpec)

/-- ITS FALSE NEIGHBOUR: 'it returns false'. Refute it at one input. -/
def fnExactGainWithWrong : ChangeSpec := { name := "fnExactGainWith", fn := fun _ => fun
  | [d1, d2, d3] => { results := [.lit (.bool false)], args := [d1, d2, d3] }
  | _ => none }
def FnExactGainWithWrongFalsely : Prop := fnExactGainWithRow.holds Try.pinned (OpenSpec.ofChange fnExactGainWithWrong)

/-- 'laws.FnExactThingPrices': WHATEVER THE INPUT: true; the input reads as it did. -/
def fnExactThingPricesSpec : ChangeSpec := { name := "fnExactThingPrices", fn := fun _ => fun
  | [d] => { results := [.lit (.bool true)], args := [d] }
  | _ => none }
def fnExactThingPricesRow : OpenClaim := { program := "ytbiefpodcenpoaa", sum := "04fed1a431015cf3af228026d201421bcefe4db7f7b067fbdf5aed448fe3a344", func := "loop.example/g03202/laws.FnExactThingPrices", spec := "fnExactThingPrices", unfollowed := true, recurses := true, apart := false }
def FnExactThingPricesSaid : Prop := fnExactThingPricesRow.holds Try.pinned (OpenSpec.ofChange fnExactThingPricesSpec)

/-- ITS FALSE NEIGHBOUR: 'it returns false'. Refute it at one input. -/
def fnExactThingPricesWrong : ChangeSpec := { name := "fnExactThingPrices", fn := fun _ => fun
  | [d] => { results := [.lit (.bool false)], args := [d] }
  | _ => none }
def FnExactThingPricesWrongFalsely : Prop := fnExactThingPricesRow.holds Try.pinned (OpenSpec.ofChange fnExactThingPricesWrong)

/-- 'laws.FnExactAllDivisions': WHATEVER THE INPUT: true; the input reads as it did. -/
def fnExactAllDivisionsSpec : ChangeSpec := { name := "fnExactAllDivisions", fn := fun _ => fun
  | [d] => { results := [.lit (.bool true)], args := [d] }
  | _ => none }
def fnExactAllDivisionsRow : OpenClaim := { program := "ytbiefpodcenpoaa", sum := "04fed1a431015cf3af228026d201421bcefe4db7f7b067fbdf5aed448fe3a344", func := "loop.example/g03202/laws.FnExactAllDivisions", spec := "fnExactAllDivisions", unfollowed := true, recurses := true, apart := false }
def FnExactAllDivisionsSaid : Prop := fnExactAllDivisionsRow.holds Try.pinned (OpenSpec.ofChange fnExactAllDivisionsSpec)

/-- ITS FALSE NEIGHBOUR: 'it returns false'. Refute it at one input. -/
def fnExactAllDivisionsWrong : ChangeSpec := { name := "fnExactAllDivisions", fn := fun _ => fun
  | [d] => { results := [.lit (.bool false)], args := [d] }
  | _ => none }
def FnExactAllDivisionsWrongFalsely : Prop := fnExactAllDivisionsRow.holds Try.pinned (OpenSpec.ofChange fnExactAllDivisionsWrong)

/-- 'laws.FnExactCountCalm': WHATEVER THE INPUT: true; the input reads as it did. -/
def fnExactCountCalmSpec : ChangeSpec := { name := "fnExactCountCalm", fn := fun _ => fun
  | [d] => { results := [.lit (.bool true)], args := [d] }
  | _ => none }
def fnExactCountCalmRow : OpenClaim := { program := "ytbiefpodcenpoaa", sum := "04fed1a431015cf3af228026d201421bcefe4db7f7b067fbdf5aed448fe3a344", func := "loop.example/g03202/laws.FnExactCountCalm", spec := "fnExactCountCalm", unfollowed := true, recurses := true, apart := false }
def FnExactCountCalmSaid : Prop := fnExactCountCalmRow.holds Try.pinned (OpenSpec.ofChange fnExactCountCalmSpec)

/-- ITS FALSE NEIGHBOUR: 'it returns false'. Refute it at one input. -/
def fnExactCountCalmWrong : ChangeSpec := { name := "fnExactCountCalm", fn := fun _ => fun
  | [d] => { results := [.lit (.bool false)], args := [d] }
  | _ => none }
def FnExactCountCalmWrongFalsely : Prop := fnExactCountCalmRow.holds Try.pinned (OpenSpec.ofChange fnExactCountCalmWrong)

/-- 'laws.FnExactMovingKnife': WHATEVER THE INPUT: true; the input reads as it did. -/
def fnExactMovingKnifeSpec : ChangeSpec := { name := "fnExactMovingKnife", fn := fun _ => fun
  | [d] => { results := [.lit (.bool true)], args := [d] }
  | _ => none }
def fnExactMovingKnifeRow : OpenClaim := { program := "ytbiefpodcenpoaa", sum := "04fed1a431015cf3af228026d201421bcefe4db7f7b067fbdf5aed448fe3a344", func := "loop.example/g03202/laws.FnExactMovingKnife", spec := "fnExactMovingKnife", unfollowed := true, recurses := true, apart := false }
def FnExactMovingKnifeSaid : Prop := fnExactMovingKnifeRow.holds Try.pinned (OpenSpec.ofChange fnExactMovingKnifeSpec)

/-- ITS FALSE NEIGHBOUR: 'it returns false'. Refute it at one input. -/
def fnExactMovingKnifeWrong : ChangeSpec := { name := "fnExactMovingKnife", fn := fun _ => fun
  | [d] => { results := [.lit (.bool false)], args := [d] }
  | _ => none }
def FnExactMovingKnifeWrongFalsely : Prop := fnExactMovingKnifeRow.holds Try.pinned (OpenSpec.ofChange fnExactMovingKnifeWrong)

/-- 'laws.FnExactBestRooms': WHATEVER THE INPUT: true; the input reads as it did. -/
def fnExactBestRoomsSpec : ChangeSpec := { name := "fnExactBestRooms", fn := fun _ => fun
  | [d] => { results := [.lit (.bool true)], args := [d] }
  | _ => none }
def fnExactBestRoomsRow : OpenClaim := { program := "ytbiefpodcenpoaa", sum := "04fed1a431015cf3af228026d201421bcefe4db7f7b067fbdf5aed448fe3a344", func := "loop.example/g03202/laws.FnExactBestRooms", spec := "fnExactBestRooms", unfollowed := true, recurses := true, apart := false }
def FnExactBestRoomsSaid : Prop := fnExactBestRoomsRow.holds Try.pinned (OpenSpec.ofChange fnExactBestRoomsSpec)

/-- ITS FALSE NEIGHBOUR: 'it returns false'. Refute it at one input. -/
def fnExactBestRoomsWrong : ChangeSpec := { name := "fnExactBestRooms", fn := fun _ => fun
  | [d] => { results := [.lit (.bool false)], args := [d] }
  | _ => none }
def FnExactBestRoomsWrongFalsely : Prop := fnExactBestRoomsRow.holds Try.pinned (OpenSpec.ofChange fnExactBestRoomsWrong)

/-- 'laws.FnExactRentsFor': WHATEVER THE INPUT: true; the input reads as it did. -/
def fnExactRentsForSpec : ChangeSpec := { name := "fnExactRentsFor", fn := fun _ => fun
  | [d1, d2] => { results := [.lit (.bool true)], args := [d1, d2] }
  | _ => none }
def fnExactRentsForRow : OpenClaim := { program := "ytbiefpodcenpoaa", sum := "04fed1a431015cf3af228026d201421bcefe4db7f7b067fbdf5aed448fe3a344", func := "loop.example/g03202/laws.FnExactRentsFor", spec := "fnExactRentsFor", unfollowed := true, recurses := true, apart := false }
def FnExactRentsForSaid : Prop := fnExactRentsForRow.holds Try.pinned (OpenSpec.ofChange fnExactRentsForSpec)

/-- ITS FALSE NEIGHBOUR: 'it returns false'. Refute it at one input. -/
def fnExactRentsForWrong : ChangeSpec := { name := "fnExactRentsFor", fn := fun _ => fun
  | [d1, d2] => { results := [.lit (.bool false)], args := [d1, d2] }
  | _ => none }
def FnExactRentsForWrongFalsely : Prop := fnExactRentsForRow.holds Try.pinned (OpenSpec.ofChange fnExactRentsForWrong)

/- THE SECOND FORM. 'bulk': how many values and letters a reading holds, each counted each time it is reached (what is shared counts as often as it is met; a slice's spare places count too). A statement '..UptoSaid' is the law's where the arguments, and the package variables that the reading takes, are together of bulk at most 1048576: NARROWER than '..Said'. Prove '..Said' where nothing that the law and all that it calls make is longer than what came in: it says more and counts as full. Else prove '..UptoSaid'. A law counts once. -/
mutual
def uptoBulk {H : Type} : DataW H → Nat
  | .lit (.string bytes) => bytes.length + 1
  | .lit _ => 1
  | .nil => 1
  | .ptr d => uptoBulk d + 1
  | .slice elems spare => uptoBulkAll elems + uptoBulkAll spare + 1
  | .agg parts => uptoBulkAll parts + 1
  | .iface _ d => uptoBulk d + 1
  | .map entries => uptoBulkEntries entries + 1
  | .held _ => 1
def uptoBulkAll {H : Type} : List (DataW H) → Nat
  | [] => 0
  | d :: r => uptoBulk d + uptoBulkAll r
def uptoBulkEntries {H : Type} : List (Lit × DataW H) → Nat
  | [] => 0
  | x :: r => uptoBulkEntry x + uptoBulkEntries r
def uptoBulkEntry {H : Type} : Lit × DataW H → Nat
  | (.string bytes, d) => bytes.length + uptoBulk d + 1
  | (_, d) => uptoBulk d + 1
 end
def uptoSmall : (H : Type) → List (DataW H) → Bool := fun _ ds => decide (uptoBulkAll ds ≤ 1048576)
def OpenSpec.upto (s : _root_.Go.ChangeSpec) : _root_.Go.OpenSpec := { _root_.Go.OpenSpec.ofChange s with cond := some uptoSmall }

/-- 'laws.FnExactIsFreeLottery', WHERE WHAT IT READS IS OF BULK AT MOST 1048576: true; the input reads as it did. -/
def fnExactIsFreeLotteryUptoRow : OpenClaim := { program := "ytbiefpodcenpoaa", sum := "04fed1a431015cf3af228026d201421bcefe4db7f7b067fbdf5aed448fe3a344", func := "loop.example/g03202/laws.FnExactIsFreeLottery", spec := "fnExactIsFreeLottery", unfollowed := true, recurses := true, apart := false, narrowed := true }
def FnExactIsFreeLotteryUptoSaid : Prop := fnExactIsFreeLotteryUptoRow.holds Try.pinned (OpenSpec.upto fnExactIsFreeLotterySpec)

/-- 'laws.FnExactBestAward', WHERE WHAT IT READS IS OF BULK AT MOST 1048576: true; the input reads as it did. -/
def fnExactBestAwardUptoRow : OpenClaim := { program := "ytbiefpodcenpoaa", sum := "04fed1a431015cf3af228026d201421bcefe4db7f7b067fbdf5aed448fe3a344", func := "loop.example/g03202/laws.FnExactBestAward", spec := "fnExactBestAward", unfollowed := true, recurses := true, apart := false, narrowed := true }
def FnExactBestAwardUptoSaid : Prop := fnExactBestAwardUptoRow.holds Try.pinned (OpenSpec.upto fnExactBestAwardSpec)

/-- 'laws.FnExactBestWorth', WHERE WHAT IT READS IS OF BULK AT MOST 1048576: true; the input reads as it did. -/
def fnExactBestWorthUptoRow : OpenClaim := { program := "ytbiefpodcenpoaa", sum := "04fed1a431015cf3af228026d201421bcefe4db7f7b067fbdf5aed448fe3a344", func := "loop.example/g03202/laws.FnExactBestWorth", spec := "fnExactBestWorth", unfollowed := true, recurses := true, apart := false, narrowed := true }
def FnExactBestWorthUptoSaid : Prop := fnExactBestWorthUptoRow.holds Try.pinned (OpenSpec.upto fnExactBestWorthSpec)

/-- 'laws.FnExactWorthWithout', WHERE WHAT IT READS IS OF BULK AT MOST 1048576: true; the input reads as it did. -/
def fnExactWorthWithoutUptoRow : OpenClaim := { program := "ytbiefpodcenpoaa", sum := "04fed1a431015cf3af228026d201421bcefe4db7f7b067fbdf5aed448fe3a344", func := "loop.example/g03202/laws.FnExactWorthWithout", spec := "fnExactWorthWithout", unfollowed := true, recurses := true, apart := false, narrowed := true }
def FnExactWorthWithoutUptoSaid : Prop := fnExactWorthWithoutUptoRow.holds Try.pinned (OpenSpec.upto fnExactWorthWithoutSpec)

/-- 'laws.FnExactPaymentsOf', WHERE WHAT IT READS IS OF BULK AT MOST 1048576: true; the input reads as it did. -/
def fnExactPaymentsOfUptoRow : OpenClaim := { program := "ytbiefpodcenpoaa", sum := "04fed1a431015cf3af228026d201421bcefe4db7f7b067fbdf5aed448fe3a344", func := "loop.example/g03202/laws.FnExactPaymentsOf", spec := "fnExactPaymentsOf", unfollowed := true, recurses := true, apart := false, narrowed := true }
def FnExactPaymentsOfUptoSaid : Prop := fnExactPaymentsOfUptoRow.holds Try.pinned (OpenSpec.upto fnExactPaymentsOfSpec)

/-- 'laws.FnExactGainWith', WHERE WHAT IT READS IS OF BULK AT MOST 1048576: true; the input reads as it did. -/
def fnExactGainWithUptoRow : OpenClaim := { program := "ytbiefpodcenpoaa", sum := "04fed1a431015cf3af228026d201421bcefe4db7f7b067fbdf5aed448fe3a344", func := "loop.example/g03202/laws.FnExactGainWith", spec := "fnExactGainWith", unfollowed := true, recurses := true, apart := false, narrowed := true }
def FnExactGainWithUptoSaid : Prop := fnExactGainWithUptoRow.holds Try.pinned (OpenSpec.upto fnExactGainWithSpec)

/-- 'laws.FnExactThingPrices', WHERE WHAT IT READS IS OF BULK AT MOST 1048576: true; the input reads as it did. -/
def fnExactThingPricesUptoRow : OpenClaim := { program := "ytbiefpodcenpoaa", sum := "04fed1a431015cf3af228026d201421bcefe4db7f7b067fbdf5aed448fe3a344", func := "loop.example/g03202/laws.FnExactThingPrices", spec := "fnExactThingPrices", unfollowed := true, recurses := true, apart := false, narrowed := true }
def FnExactThingPricesUptoSaid : Prop := fnExactThingPricesUptoRow.holds Try.pinned (OpenSpec.upto fnExactThingPricesSpec)

/-- 'laws.FnExactAllDivisions', WHERE WHAT IT READS IS OF BULK AT MOST 1048576: true; the input reads as it did. -/
def fnExactAllDivisionsUptoRow : OpenClaim := { program := "ytbiefpodcenpoaa", sum := "04fed1a431015cf3af228026d201421bcefe4db7f7b067fbdf5aed448fe3a344", func := "loop.example/g03202/laws.FnExactAllDivisions", spec := "fnExactAllDivisions", unfollowed := true, recurses := true, apart := false, narrowed := true }
def FnExactAllDivisionsUptoSaid : Prop := fnExactAllDivisionsUptoRow.holds Try.pinned (OpenSpec.upto fnExactAllDivisionsSpec)

/-- 'laws.FnExactCountCalm', WHERE WHAT IT READS IS OF BULK AT MOST 1048576: true; the input reads as it did. -/
def fnExactCountCalmUptoRow : OpenClaim := { program := "ytbiefpodcenpoaa", sum := "04fed1a431015cf3af228026d201421bcefe4db7f7b067fbdf5aed448fe3a344", func := "loop.example/g03202/laws.FnExactCountCalm", spec := "fnExactCountCalm", unfollowed := true, recurses := true, apart := false, narrowed := true }
def FnExactCountCalmUptoSaid : Prop := fnExactCountCalmUptoRow.holds Try.pinned (OpenSpec.upto fnExactCountCalmSpec)

/-- 'laws.FnExactMovingKnife', WHERE WHAT IT READS IS OF BULK AT MOST 1048576: true; the input reads as it did. -/
def fnExactMovingKnifeUptoRow : OpenClaim := { program := "ytbiefpodcenpoaa", sum := "04fed1a431015cf3af228026d201421bcefe4db7f7b067fbdf5aed448fe3a344", func := "loop.example/g03202/laws.FnExactMovingKnife", spec := "fnExactMovingKnife", unfollowed := true, recurses := true, apart := false, narrowed := true }
def FnExactMovingKnifeUptoSaid : Prop := fnExactMovingKnifeUptoRow.holds Try.pinned (OpenSpec.upto fnExactMovingKnifeSpec)

/-- 'laws.FnExactBestRooms', WHERE WHAT IT READS IS OF BULK AT MOST 1048576: true; the input reads as it did. -/
def fnExactBestRoomsUptoRow : OpenClaim := { program := "ytbiefpodcenpoaa", sum := "04fed1a431015cf3af228026d201421bcefe4db7f7b067fbdf5aed448fe3a344", func := "loop.example/g03202/laws.FnExactBestRooms", spec := "fnExactBestRooms", unfollowed := true, recurses := true, apart := false, narrowed := true }
def FnExactBestRoomsUptoSaid : Prop := fnExactBestRoomsUptoRow.holds Try.pinned (OpenSpec.upto fnExactBestRoomsSpec)

/-- 'laws.FnExactRentsFor', WHERE WHAT IT READS IS OF BULK AT MOST 1048576: true; the input reads as it did. -/
def fnExactRentsForUptoRow : OpenClaim := { program := "ytbiefpodcenpoaa", sum := "04fed1a431015cf3af228026d201421bcefe4db7f7b067fbdf5aed448fe3a344", func := "loop.example/g03202/laws.FnExactRentsFor", spec := "fnExactRentsFor", unfollowed := true, recurses := true, apart := false, narrowed := true }
def FnExactRentsForUptoSaid : Prop := fnExactRentsForUptoRow.holds Try.pinned (OpenSpec.upto fnExactRentsForSpec)

end Rows
end Go.Proofs.Ytbiefpodcenpoaa
