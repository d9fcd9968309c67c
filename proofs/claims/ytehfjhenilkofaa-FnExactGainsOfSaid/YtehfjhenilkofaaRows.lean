/-
  No cell of these rows narrows 'for every input' (looked for: loops, veiled, ifaces, maps, wideKeys, modest, calm, conditions, laid).
  DERIVED. THE GIVEN ROWS OF THIS SEAT. 12 by the template 'for every input the law returns true; each argument reads behind the call as it read before'; 0 by the template 'total and deterministic' (their statements: YtehfjhenilkofaaTotals.lean).
  GIVEN WITH THE SEED: the statements are not yours to turn. If you find one false, say at which input.
  Laid BY PROGRAM, IN A SANDBOX (cutbox-rows.mjs): the forced cells as the released guide's own fill.sh prints them over the translation ed1c3b4c76b2b8d7… (all of the seat's roots in one cut). By AI agents, Wed Nov 11 2026. No macro, syntax, notation, axiom, sorry.
-/
import Derived.Test.YtehfjhenilkofaaChecked
import GoSem.Claim
import GoSem.ClaimJoined
import GoSem.ClaimMapViews
import Derived.JoinedTies
import Derived.KernelRfl
namespace Go.Proofs.Ytehfjhenilkofaa
/- THE CELL 'sum', in the pinned program and in every row, IS THE sha256 OF THE DUMP (.gsa) THAT YtehfjhenilkofaaProg.lean LOADS. Nothing in Lean hashes anything: it is a label: what it is worth is what the hold of that sum in a sandbox is worth. -/
noncomputable def Try.pinned : Pinned := { name := "ytehfjhenilkofaa", sum := "ed1c3b4c76b2b8d74a5fd1625a973c1b180b1187561a63dc411da28d7b04290c", checked := Try.checked }
namespace Rows
def none {H : Type} : Left H := { results := [], args := [] }

/-- 'laws.FnExactIsBestForHeirs': WHATEVER THE INPUT: true; the input reads as it did. -/
def fnExactIsBestForHeirsSpec : ChangeSpec := { name := "fnExactIsBestForHeirs", fn := fun _ => fun
  | [d1, d2] => { results := [.lit (.bool true)], args := [d1, d2] }
  | _ => none }
def fnExactIsBestForHeirsRow : OpenClaim := { program := "ytehfjhenilkofaa", sum := "ed1c3b4c76b2b8d74a5fd1625a973c1b180b1187561a63dc411da28d7b04290c", func := "loop.example/g03202/laws.FnExactIsBestForHeirs", spec := "fnExactIsBestForHeirs", unfollowed := true, recurses := true, apart := false }
def FnExactIsBestForHeirsSaid : Prop := fnExactIsBestForHeirsRow.holds Try.pinned (OpenSpec.ofChange fnExactIsBestForHeirsSpec)

/-- ITS FALSE NEIGHBOUR: 'it returns false'. Refute it at one input. -/
def fnExactIsBestForHeirsWrong : ChangeSpec := { name := "fnExactIsBestForHeirs", fn := fun _ => fun
  | [d1, d2] => { results := [.lit (.bool false)], args := [d1, d2] }
  | _ => none }
def FnExactIsBestForHeirsWrongFalsely : Prop := fnExactIsBestForHeirsRow.holds Try.pinned (OpenSpec.ofChange fnExactIsBestForHeirsWrong)

/-- 'laws.FnExactIsBetterLottery': WHATEVER THE INPUT: true; the input reads as it did. -/
def fnExactIsBetterLotterySpec : ChangeSpec := { name := "fnExactIsBetterLottery", fn := fun _ => fun
  | [d1, d2, d3] => { results := [.lit (.bool true)], args := [d1, d2, d3] }
  | _ => none }
def fnExactIsBetterLotteryRow : OpenClaim := { program := "ytehfjhenilkofaa", sum := "ed1c3b4c76b2b8d74a5fd1625a973c1b180b1187561a63dc411da28d7b04290c", func := "loop.example/g03202/laws.FnExactIsBetterLottery", spec := "fnExactIsBetterLottery", apart := false }
def FnExactIsBetterLotterySaid : Prop := fnExactIsBetterLotteryRow.holds Try.pinned (OpenSpec.ofChange fnExactIsBetterLotterySpec)

/-- ITS FALSE NEIGHBOUR: 'it returns false'. Refute it at one input. -/
def fnExactIsBetterLotteryWrong : ChangeSpec := { name := "fnExactIsBetterLottery", fn := fun _ => fun
  | [d1, d2, d3] => { results := [.lit (.bool false)], args := [d1, d2, d3] }
  | _ => none }
def FnExactIsBetterLotteryWrongFalsely : Prop := fnExactIsBetterLotteryRow.holds Try.pinned (OpenSpec.ofChange fnExactIsBetterLotteryWrong)

/-- 'laws.FnExactHeirPoints': WHATEVER THE INPUT: true; the input reads as it did. -/
def fnExactHeirPointsSpec : ChangeSpec := { name := "fnExactHeirPoints", fn := fun _ => fun
  | [d1, d2, d3] => { results := [.lit (.bool true)], args := [d1, d2, d3] }
  | _ => none }
def fnExactHeirPointsRow : OpenClaim := { program := "ytehfjhenilkofaa", sum := "ed1c3b4c76b2b8d74a5fd1625a973c1b180b1187561a63dc411da28d7b04290c", func := "loop.example/g03202/laws.FnExactHeirPoints", spec := "fnExactHeirPoints", unfollowed := true, recurses := true, apart := false }
def FnExactHeirPointsSaid : Prop := fnExactHeirPointsRow.holds Try.pinned (OpenSpec.ofChange fnExactHeirPointsSpec)

/-- ITS FALSE NEIGHBOUR: 'it returns false'. Refute it at one input. -/
def fnExactHeirPointsWrong : ChangeSpec := { name := "fnExactHeirPoints", fn := fun _ => fun
  | [d1, d2, d3] => { results := [.lit (.bool false)], args := [d1, d2, d3] }
  | _ => none }
def FnExactHeirPointsWrongFalsely : Prop := fnExactHeirPointsRow.holds Try.pinned (OpenSpec.ofChange fnExactHeirPointsWrong)

/-- 'laws.FnExactAreEqualHeirs': WHATEVER THE INPUT: true; the input reads as it did. -/
def fnExactAreEqualHeirsSpec : ChangeSpec := { name := "fnExactAreEqualHeirs", fn := fun _ => fun
  | [d1, d2] => { results := [.lit (.bool true)], args := [d1, d2] }
  | _ => none }
def fnExactAreEqualHeirsRow : OpenClaim := { program := "ytehfjhenilkofaa", sum := "ed1c3b4c76b2b8d74a5fd1625a973c1b180b1187561a63dc411da28d7b04290c", func := "loop.example/g03202/laws.FnExactAreEqualHeirs", spec := "fnExactAreEqualHeirs", unfollowed := true, recurses := true, apart := false }
def FnExactAreEqualHeirsSaid : Prop := fnExactAreEqualHeirsRow.holds Try.pinned (OpenSpec.ofChange fnExactAreEqualHeirsSpec)

/-- ITS FALSE NEIGHBOUR: 'it returns false'. Refute it at one input. -/
def fnExactAreEqualHeirsWrong : ChangeSpec := { name := "fnExactAreEqualHeirs", fn := fun _ => fun
  | [d1, d2] => { results := [.lit (.bool false)], args := [d1, d2] }
  | _ => none }
def FnExactAreEqualHeirsWrongFalsely : Prop := fnExactAreEqualHeirsRow.holds Try.pinned (OpenSpec.ofChange fnExactAreEqualHeirsWrong)

/-- 'laws.FnExactGainsOf': WHATEVER THE INPUT: true; the input reads as it did. -/
def fnExactGainsOfSpec : ChangeSpec := { name := "fnExactGainsOf", fn := fun _ => fun
  | [d1, d2, d3] => { results := [.lit (.bool true)], args := [d1, d2, d3] }
  | _ => none }
def fnExactGainsOfRow : OpenClaim := { program := "ytehfjhenilkofaa", sum := "ed1c3b4c76b2b8d74a5fd1625a973c1b180b1187561a63dc411da28d7b04290c", func := "loop.example/g03202/laws.FnExactGainsOf", spec := "fnExactGainsOf", unfollowed := true, recurses := true, apart := false }
def FnExactGainsOfSaid : Prop := fnExactGainsOfRow.holds Try.pinned (OpenSpec.ofChange fnExactGainsOfSpec)

/-- ITS FALSE NEIGHBOUR: 'it returns false'. Refute it at one input. -/
def fnExactGainsOfWrong : ChangeSpec := { name := "fnExactGainsOf", fn := fun _ => fun
  | [d1, d2, d3] => { results := [.lit (.bool false)], args := [d1, d2, d3] }
  | _ => none }
def FnExactGainsOfWrongFalsely : Prop := fnExactGainsOfRow.holds Try.pinned (OpenSpec.ofChange fnExactGainsOfWrong)

/-- 'laws.FnExactIsFreeLottery': WHATEVER THE INPUT: true; the input reads as it did. -/
def fnExactIsFreeLotterySpec : ChangeSpec := { name := "fnExactIsFreeLottery", fn := fun _ => fun
  | [d1, d2] => { results := [.lit (.bool true)], args := [d1, d2] }
  | _ => none }
def fnExactIsFreeLotteryRow : OpenClaim := { program := "ytehfjhenilkofaa", sum := "ed1c3b4c76b2b8d74a5fd1625a973c1b180b1187561a63dc411da28d7b04290c", func := "loop.example/g03202/laws.FnExactIsFreeLottery", spec := "fnExactIsFreeLottery", unfollowed := true, recurses := true, apart := false }
def FnExactIsFreeLotterySaid : Prop := fnExactIsFreeLotteryRow.holds Try.pinned (OpenSpec.ofChange fnExactIsFreeLotterySpec)

/-- ITS FALSE NEIGHBOUR: 'it returns false'. Refute it at one input. -/
def fnExactIsFreeLotteryWrong : ChangeSpec := { name := "fnExactIsFreeLottery", fn := fun _ => fun
  | [d1, d2] => { results := [.lit (.bool false)], args := [d1, d2] }
  | _ => none }
def FnExactIsFreeLotteryWrongFalsely : Prop := fnExactIsFreeLotteryRow.holds Try.pinned (OpenSpec.ofChange fnExactIsFreeLotteryWrong)

/-- 'laws.FnExactCountCalm': WHATEVER THE INPUT: true; the input reads as it did. -/
def fnExactCountCalmSpec : ChangeSpec := { name := "fnExactCountCalm", fn := fun _ => fun
  | [d] => { results := [.lit (.bool true)], args := [d] }
  | _ => none }
def fnExactCountCalmRow : OpenClaim := { program := "ytehfjhenilkofaa", sum := "ed1c3b4c76b2b8d74a5fd1625a973c1b180b1187561a63dc411da28d7b04290c", func := "loop.example/g03202/laws.FnExactCountCalm", spec := "fnExactCountCalm", unfollowed := true, recurses := true, apart := false }
def FnExactCountCalmSaid : Prop := fnExactCountCalmRow.holds Try.pinned (OpenSpec.ofChange fnExactCountCalmSpec)

/-- ITS FALSE NEIGHBOUR: 'it returns false'. Refute it at one input. -/
def fnExactCountCalmWrong : ChangeSpec := { name := "fnExactCountCalm", fn := fun _ => fun
  | [d] => { results := [.lit (.bool false)], args := [d] }
  | _ => none }
def FnExactCountCalmWrongFalsely : Prop := fnExactCountCalmRow.holds Try.pinned (OpenSpec.ofChange fnExactCountCalmWrong)

/-- 'laws.FnExactBestAward': WHATEVER THE INPUT: true; the input reads as it did. -/
def fnExactBestAwardSpec : ChangeSpec := { name := "fnExactBestAward", fn := fun _ => fun
  | [d] => { results := [.lit (.bool true)], args := [d] }
  | _ => none }
def fnExactBestAwardRow : OpenClaim := { program := "ytehfjhenilkofaa", sum := "ed1c3b4c76b2b8d74a5fd1625a973c1b180b1187561a63dc411da28d7b04290c", func := "loop.example/g03202/laws.FnExactBestAward", spec := "fnExactBestAward", unfollowed := true, recurses := true, apart := false }
def FnExactBestAwardSaid : Prop := fnExactBestAwardRow.holds Try.pinned (OpenSpec.ofChange fnExactBestAwardSpec)

/-- ITS FALSE NEIGHBOUR: 'it returns false'. Refute it at one input. -/
def fnExactBestAwardWrong : ChangeSpec := { name := "fnExactBestAward", fn := fun _ => fun
  | [d] => { results := [.lit (.bool false)], args := [d] }
  | _ => none }
def FnExactBestAwardWrongFalsely : Prop := fnExactBestAwardRow.holds Try.pinned (OpenSpec.ofChange fnExactBestAwardWrong)

/-- 'laws.FnExactBestWorth': WHATEVER THE INPUT: true; the input reads as it did. -/
def fnExactBestWorthSpec : ChangeSpec := { name := "fnExactBestWorth", fn := fun _ => fun
  | [d] => { results := [.lit (.bool true)], args := [d] }
  | _ => none }
def fnExactBestWorthRow : OpenClaim := { program := "ytehfjhenilkofaa", sum := "ed1c3b4c76b2b8d74a5fd1625a973c1b180b1187561a63dc411da28d7b04290c", func := "loop.example/g03202/laws.FnExactBestWorth", spec := "fnExactBestWorth", unfollowed := true, recurses := true, apart := false }
def FnExactBestWorthSaid : Prop := fnExactBestWorthRow.holds Try.pinned (OpenSpec.ofChange fnExactBestWorthSpec)

/-- ITS FALSE NEIGHBOUR: 'it returns false'. Refute it at one input. -/
def fnExactBestWorthWrong : ChangeSpec := { name := "fnExactBestWorth", fn := fun _ => fun
  | [d] => { results := [.lit (.bool false)], args := [d] }
  | _ => none }
def FnExactBestWorthWrongFalsely : Prop := fnExactBestWorthRow.holds Try.pinned (OpenSpec.ofChange fnExactBestWorthWrong)

/-- 'laws.FnExactWorthWithout': WHATEVER THE INPUT: true; the input reads as it did. -/
def fnExactWorthWithoutSpec : ChangeSpec := { name := "fnExactWorthWithout", fn := fun _ => fun
  | [d1, d2] => { results := [.lit (.bool true)], args := [d1, d2] }
  | _ => none }
def fnExactWorthWithoutRow : OpenClaim := { program := "ytehfjhenilkofaa", sum := "ed1c3b4c76b2b8d74a5fd1625a973c1b180b1187561a63dc411da28d7b04290c", func := "loop.example/g03202/laws.FnExactWorthWithout", spec := "fnExactWorthWithout", unfollowed := true, recurses := true, apart := false }
def FnExactWorthWithoutSaid : Prop := fnExactWorthWithoutRow.holds Try.pinned (OpenSpec.ofChange fnExactWorthWithoutSpec)

/-- ITS FALSE NEIGHBOUR: 'it returns false'. Refute it at one input. -/
def fnExactWorthWithoutWrong : ChangeSpec := { name := "fnExactWorthWithout", fn := fun _ => fun
  | [d1, d2] => { results := [.lit (.bool false)], args := [d1, d2] }
  | _ => none }
def FnExactWorthWithoutWrongFalsely : Prop := fnExactWorthWithoutRow.holds Try.pinned (OpenSpec.ofChange fnExactWorthWithoutWrong)

/-- 'laws.FnExactPaymentsOf': WHATEVER THE INPUT: true; the input reads as it did. -/
def fnExactPaymentsOfSpec : ChangeSpec := { name := "fnExactPaymentsOf", fn := fun _ => fun
  | [d] => { results := [.lit (.bool true)], args := [d] }
  | _ => none }
def fnExactPaymentsOfRow : OpenClaim := { program := "ytehfjhenilkofaa", sum := "ed1c3b4c76b2b8d74a5fd1625a973c1b180b1187561a63dc411da28d7b04290c", func := "loop.example/g03202/laws.FnExactPaymentsOf", spec := "fnExactPaymentsOf", unfollowed := true, recurses := true, apart := false }
def FnExactPaymentsOfSaid : Prop := fnExactPaymentsOfRow.holds Try.pinned (OpenSpec.ofChange fnExactPaymentsOfSpec)

/-- ITS FALSE NEIGHBOUR: 'it returns false'. Refute it at one input. -/
def fnExactPaymentsOfWrong : ChangeSpec := { name := "fnExactPaymentsOf", fn := fun _ => fun
  | [d] => { results := [.lit (.bool false)], args := [d] }
  | _ => none }
def FnExactPaymentsOfWrongFalsely : Prop := fnExactPaymentsOfRow.holds Try.pinned (OpenSpec.ofChange fnExactPaymentsOfWrong)

/-- 'laws.FnExactGainWith': WHATEVER THE INPUT: true; the input reads as it did. -/
def fnExactGainWithSpec : ChangeSpec := { name := "fnExactGainWith", fn := fun _ => fun
  | [d1, d2, d3] => { results := [.lit (.bool true)], args := [d1, d2, d3] }
  | _ => none }
def fnExactGainWithRow : OpenClaim := { program := "ytehfjhenilkofaa", sum := "ed1c3b4c76b2b8d74a5fd1625a973c1b180b1187561a63dc411da28d7b04290c", func := "loop.example/g03202/laws.FnExactGainWith", spec := "fnExactGainWith", unfollowed := true, recurses := true, apart := false }
def FnExactGainWithSaid : Prop := fnExactGainWithRow.holds Try.pinned (OpenSpec.ofChange fnExactGainWithSpec)

/-- ITS FALSE NEIGHBOUR: 'it returns false'. Refute it at one input. -/
def fnExactGainWithWrong : ChangeSpec := { name := "fnExactGainWith", fn := fun _ => fun
  | [d1, d2, d3] => { results := [.lit (.bool false)], args := [d1, d2, d3] }
  | _ => none }
def FnExactGainWithWrongFalsely : Prop := fnExactGainWithRow.holds Try.pinned (OpenSpec.ofChange fnExactGainWithWrong)

/- THE SECOND FORM. 'bulk': how many values and letters a reading holds, each counted each time it is reached (what is shared counts as often as it is met; a slice's spare places count too). A statement '..UptoSaid' is the law's where the arguments, and the package variables that the reading takes, are together of bulk at most 1048576: NARROWER than '..Said'. Prove '..Said' where nothing that the law and all that it calls make is longer than what came in: it says more and counts as full. Else prove '..UptoSaid'. A law counts once. -/
mutual
def uptoBulk {H : Type} : DataW H → Nat
  | .lit (.string bytes) => bytes.length + 1
  | .lit _ => 1
  | .nil => 1
  | .ptr d => uptoBulk d + 1
  | .slice elems spare => uptoBulkAll elems + uptoBulkAll spare + 1
  | .agg parts => uptoBulkAll parts + 1
  | .iface _ d => uptoBulk d + 1
  | .map entries => uptoBulkEntries entries + 1
  | .held _ => 1
def uptoBulkAll {H : Type} : List (DataW H) → Nat
  | [] => 0
  | d :: r => uptoBulk d + uptoBulkAll r
def uptoBulkEntries {H : Type} : List (Lit × DataW H) → Nat
  | [] => 0
  | x :: r => uptoBulkEntry x + uptoBulkEntries r
def uptoBulkEntry {H : Type} : Lit × DataW H → Nat
  | (.string bytes, d) => bytes.length + uptoBulk d + 1
  | (_, d) => uptoBulk d + 1
 end
def uptoSmall : (H : Type) → List (DataW H) → Bool := fun _ ds => decide (uptoBulkAll ds ≤ 1048576)
def OpenSpec.upto (s : _root_.Go.ChangeSpec) : _root_.Go.OpenSpec := { _root_.Go.OpenSpec.ofChange s with cond := some uptoSmall }

/-- 'laws.FnExactIsBestForHeirs', WHERE WHAT IT READS IS OF BULK AT MOST 1048576: true; the input reads as it did. -/
def fnExactIsBestForHeirsUptoRow : OpenClaim := { program := "ytehfjhenilkofaa", sum := "ed1c3b4c76b2b8d74a5fd1625a973c1b180b1187561a63dc411da28d7b04290c", func := "loop.example/g03202/laws.FnExactIsBestForHeirs", spec := "fnExactIsBestForHeirs", unfollowed := true, recurses := true, apart := false, narrowed := true }
def FnExactIsBestForHeirsUptoSaid : Prop := fnExactIsBestForHeirsUptoRow.holds Try.pinned (OpenSpec.upto fnExactIsBestForHeirsSpec)

/-- 'laws.FnExactIsBetterLottery', WHERE WHAT IT READS IS OF BULK AT MOST 1048576: true; the input reads as it did. -/
def fnExactIsBetterLotteryUptoRow : OpenClaim := { program := "ytehfjhenilkofaa", sum := "ed1c3b4c76b2b8d74a5fd1625a973c1b180b1187561a63dc411da28d7b04290c", func := "loop.example/g03202/laws.FnExactIsBetterLottery", spec := "fnExactIsBetterLottery", apart := false, narrowed := true }
def FnExactIsBetterLotteryUptoSaid : Prop := fnExactIsBetterLotteryUptoRow.holds Try.pinned (OpenSpec.upto fnExactIsBetterLotterySpec)

/-- 'laws.FnExactHeirPoints', WHERE WHAT IT READS IS OF BULK AT MOST 1048576: true; the input reads as it did. -/
def fnExactHeirPointsUptoRow : OpenClaim := { program := "ytehfjhenilkofaa", sum := "ed1c3b4c76b2b8d74a5fd1625a973c1b180b1187561a63dc411da28d7b04290c", func := "loop.example/g03202/laws.FnExactHeirPoints", spec := "fnExactHeirPoints", unfollowed := true, recurses := true, apart := false, narrowed := true }
def FnExactHeirPointsUptoSaid : Prop := fnExactHeirPointsUptoRow.holds Try.pinned (OpenSpec.upto fnExactHeirPointsSpec)

/-- 'laws.FnExactAreEqualHeirs', WHERE WHAT IT READS IS OF BULK AT MOST 1048576: true; the input reads as it did. -/
def fnExactAreEqualHeirsUptoRow : OpenClaim := { program := "ytehfjhenilkofaa", sum := "ed1c3b4c76b2b8d74a5fd1625a973c1b180b1187561a63dc411da28d7b04290c", func := "loop.example/g03202/laws.FnExactAreEqualHeirs", spec := "fnExactAreEqualHeirs", unfollowed := true, recurses := true, apart := false, narrowed := true }
def FnExactAreEqualHeirsUptoSaid : Prop := fnExactAreEqualHeirsUptoRow.holds Try.pinned (OpenSpec.upto fnExactAreEqualHeirsSpec)

/-- 'laws.FnExactGainsOf', WHERE WHAT IT READS IS OF BULK AT MOST 1048576: true; the input reads as it did. -/
def fnExactGainsOfUptoRow : OpenClaim := { program := "ytehfjhenilkofaa", sum := "ed1c3b4c76b2b8d74a5fd1625a973c1b180b1187561a63dc411da28d7b04290c", func := "loop.example/g03202/laws.FnExactGainsOf", spec := "fnExactGainsOf", unfollowed := true, recurses := true, apart := false, narrowed := true }
def FnExactGainsOfUptoSaid : Prop := fnExactGainsOfUptoRow.holds Try.pinned (OpenSpec.upto fnExactGainsOfSpec)

/-- 'laws.FnExactIsFreeLottery', WHERE WHAT IT READS IS OF BULK AT MOST 1048576: true; the input reads as it did. -/
def fnExactIsFreeLotteryUptoRow : OpenClaim := { program := "ytehfjhenilkofaa", sum := "ed1c3b4c76b2b8d74a5fd1625a973c1b180b1187561a63dc411da28d7b04290c", func := "loop.example/g03202/laws.FnExactIsFreeLottery", spec := "fnExactIsFreeLottery", unfollowed := true, recurses := true, apart := false, narrowed := true }
def FnExactIsFreeLotteryUptoSaid : Prop := fnExactIsFreeLotteryUptoRow.holds Try.pinned (OpenSpec.upto fnExactIsFreeLotterySpec)

/-- 'laws.FnExactCountCalm', WHERE WHAT IT READS IS OF BULK AT MOST 1048576: true; the input reads as it did. -/
def fnExactCountCalmUptoRow : OpenClaim := { program := "ytehfjhenilkofaa", sum := "ed1c3b4c76b2b8d74a5fd1625a973c1b180b1187561a63dc411da28d7b04290c", func := "loop.example/g03202/laws.FnExactCountCalm", spec := "fnExactCountCalm", unfollowed := true, recurses := true, apart := false, narrowed := true }
def FnExactCountCalmUptoSaid : Prop := fnExactCountCalmUptoRow.holds Try.pinned (OpenSpec.upto fnExactCountCalmSpec)

/-- 'laws.FnExactBestAward', WHERE WHAT IT READS IS OF BULK AT MOST 1048576: true; the input reads as it did. -/
def fnExactBestAwardUptoRow : OpenClaim := { program := "ytehfjhenilkofaa", sum := "ed1c3b4c76b2b8d74a5fd1625a973c1b180b1187561a63dc411da28d7b04290c", func := "loop.example/g03202/laws.FnExactBestAward", spec := "fnExactBestAward", unfollowed := true, recurses := true, apart := false, narrowed := true }
def FnExactBestAwardUptoSaid : Prop := fnExactBestAwardUptoRow.holds Try.pinned (OpenSpec.upto fnExactBestAwardSpec)

/-- 'laws.FnExactBestWorth', WHERE WHAT IT READS IS OF BULK AT MOST 1048576: true; the input reads as it did. -/
def fnExactBestWorthUptoRow : OpenClaim := { program := "ytehfjhenilkofaa", sum := "ed1c3b4c76b2b8d74a5fd1625a973c1b180b1187561a63dc411da28d7b04290c", func := "loop.example/g03202/laws.FnExactBestWorth", spec := "fnExactBestWorth", unfollowed := true, recurses := true, apart := false, narrowed := true }
def FnExactBestWorthUptoSaid : Prop := fnExactBestWorthUptoRow.holds Try.pinned (OpenSpec.upto fnExactBestWorthSpec)

/-- 'laws.FnExactWorthWithout', WHERE WHAT IT READS IS OF BULK AT MOST 1048576: true; the input reads as it did. -/
def fnExactWorthWithoutUptoRow : OpenClaim := { program := "ytehfjhenilkofaa", sum := "ed1c3b4c76b2b8d74a5fd1625a973c1b180b1187561a63dc411da28d7b04290c", func := "loop.example/g03202/laws.FnExactWorthWithout", spec := "fnExactWorthWithout", unfollowed := true, recurses := true, apart := false, narrowed := true }
def FnExactWorthWithoutUptoSaid : Prop := fnExactWorthWithoutUptoRow.holds Try.pinned (OpenSpec.upto fnExactWorthWithoutSpec)

/-- 'laws.FnExactPaymentsOf', WHERE WHAT IT READS IS OF BULK AT MOST 1048576: true; the input reads as it did. -/
def fnExactPaymentsOfUptoRow : OpenClaim := { program := "ytehfjhenilkofaa", sum := "ed1c3b4c76b2b8d74a5fd1625a973c1b180b1187561a63dc411da28d7b04290c", func := "loop.example/g03202/laws.FnExactPaymentsOf", spec := "fnExactPaymentsOf", unfollowed := true, recurses := true, apart := false, narrowed := true }
def FnExactPaymentsOfUptoSaid : Prop := fnExactPaymentsOfUptoRow.holds Try.pinned (OpenSpec.upto fnExactPaymentsOfSpec)

/-- 'laws.FnExactGainWith', WHERE WHAT IT READS IS OF BULK AT MOST 1048576: true; the input reads as it did. -/
def fnExactGainWithUptoRow : OpenClaim := { program := "ytehfjhenilkofaa", sum := "ed1c3b4c76b2b8d74a5fd1625a973c1b180b1187561a63dc411da28d7b04290c", func := "loop.example/g03202/laws.FnExactGainWith", spec := "fnExactGainWith", unfollowed := true, recurses := true, apart := false, narrowed := true }
def FnExactGainWithUptoSaid : Prop := fnExactGainWithUptoRow.holds Try.pinned (OpenSpec.upto fnExactGainWithSpec)

end Rows
end Go.Proofs.Ytehfjhenilkofaa
