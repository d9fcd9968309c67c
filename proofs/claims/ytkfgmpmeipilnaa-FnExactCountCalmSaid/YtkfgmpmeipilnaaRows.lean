/-
  No cell of these rows narrows 'for every input' (looked for: loops, veiled, ifaces, maps, wideKeys, modest, calm, conditions, laid).
  DERIVED. THE GIVEN ROWS OF THIS SEAT. 7 by the template 'for every input the law returns true; each argument reads behind the call as it read before'; 0 by the template 'total and deterministic' (their statements: YtkfgmpmeipilnaaTotals.lean).
  GIVEN WITH THE SEED: the statements are not yours to turn. If you find one false, say at which input.
  Laid BY PROGRAM, IN A SANDBOX (cutbox-rows.mjs): the forced cells as the released guide's own fill.sh prints them over the translation c35aa5e99aa10762… (all of the seat's roots in one cut). By AI agents, Wed Nov 11 2026. No macro, syntax, notation, axiom, sorry.
-/
import Derived.Test.YtkfgmpmeipilnaaChecked
import GoSem.Claim
import GoSem.ClaimJoined
import GoSem.ClaimMapViews
import Derived.JoinedTies
import Derived.KernelRfl
namespace Go.Proofs.Ytkfgmpmeipilnaa
/- THE CELL 'sum', in the pinned program and in every row, IS THE sha256 OF THE DUMP (.gsa) THAT YtkfgmpmeipilnaaProg.lean LOADS. Nothing in Lean hashes anything: it is a label: what it is worth is what the hold of that sum in a sandbox is worth. -/
noncomputable def Try.pinned : Pinned := { name := "ytkfgmpmeipilnaa", sum := "c35aa5e99aa10762d6fa87f2d5eca77a3f014c0478321650c5d5f89529fd3333", checked := Try.checked }
namespace Rows
def none {H : Type} : Left H := { results := [], args := [] }

/-- 'laws.FnExactEatTogether': WHATEVER THE INPUT: true; the input reads as it did. -/
def fnExactEatTogetherSpec : ChangeSpec := { name := "fnExactEatTogether", fn := fun _ => fun
  | [d] => { results := [.lit (.bool true)], args := [d] }
  | _ => none }
def fnExactEatTogetherRow : OpenClaim := { program := "ytkfgmpmeipilnaa", sum := "c35aa5e99aa10762d6fa87f2d5eca77a3f014c0478321650c5d5f89529fd3333", func := "loop.example/g03202/laws.FnExactEatTogether", spec := "fnExactEatTogether", unfollowed := true, recurses := true, apart := false }
def FnExactEatTogetherSaid : Prop := fnExactEatTogetherRow.holds Try.pinned (OpenSpec.ofChange fnExactEatTogetherSpec)

/-- ITS FALSE NEIGHBOUR: 'it returns false'. Refute it at one input. -/
def fnExactEatTogetherWrong : ChangeSpec := { name := "fnExactEatTogether", fn := fun _ => fun
  | [d] => { results := [.lit (.bool false)], args := [d] }
  | _ => none }
def FnExactEatTogetherWrongFalsely : Prop := fnExactEatTogetherRow.holds Try.pinned (OpenSpec.ofChange fnExactEatTogetherWrong)

/-- 'laws.FnExactMixOf': WHATEVER THE INPUT: true; the input reads as it did. -/
def fnExactMixOfSpec : ChangeSpec := { name := "fnExactMixOf", fn := fun _ => fun
  | [d1, d2] => { results := [.lit (.bool true)], args := [d1, d2] }
  | _ => none }
def fnExactMixOfRow : OpenClaim := { program := "ytkfgmpmeipilnaa", sum := "c35aa5e99aa10762d6fa87f2d5eca77a3f014c0478321650c5d5f89529fd3333", func := "loop.example/g03202/laws.FnExactMixOf", spec := "fnExactMixOf", unfollowed := true, recurses := true, apart := false }
def FnExactMixOfSaid : Prop := fnExactMixOfRow.holds Try.pinned (OpenSpec.ofChange fnExactMixOfSpec)

/-- ITS FALSE NEIGHBOUR: 'it returns false'. Refute it at one input. -/
def fnExactMixOfWrong : ChangeSpec := { name := "fnExactMixOf", fn := fun _ => fun
  | [d1, d2] => { results := [.lit (.bool false)], args := [d1, d2] }
  | _ => none }
def FnExactMixOfWrongFalsely : Prop := fnExactMixOfRow.holds Try.pinned (OpenSpec.ofChange fnExactMixOfWrong)

/-- 'laws.FnExactRandomSerial': WHATEVER THE INPUT: true; the input reads as it did. -/
def fnExactRandomSerialSpec : ChangeSpec := { name := "fnExactRandomSerial", fn := fun _ => fun
  | [d] => { results := [.lit (.bool true)], args := [d] }
  | _ => none }
def fnExactRandomSerialRow : OpenClaim := { program := "ytkfgmpmeipilnaa", sum := "c35aa5e99aa10762d6fa87f2d5eca77a3f014c0478321650c5d5f89529fd3333", func := "loop.example/g03202/laws.FnExactRandomSerial", spec := "fnExactRandomSerial", unfollowed := true, recurses := true, apart := false }
def FnExactRandomSerialSaid : Prop := fnExactRandomSerialRow.holds Try.pinned (OpenSpec.ofChange fnExactRandomSerialSpec)

/-- ITS FALSE NEIGHBOUR: 'it returns false'. Refute it at one input. -/
def fnExactRandomSerialWrong : ChangeSpec := { name := "fnExactRandomSerial", fn := fun _ => fun
  | [d] => { results := [.lit (.bool false)], args := [d] }
  | _ => none }
def FnExactRandomSerialWrongFalsely : Prop := fnExactRandomSerialRow.holds Try.pinned (OpenSpec.ofChange fnExactRandomSerialWrong)

/-- 'laws.FnExactAdjustedShares': WHATEVER THE INPUT: true; the input reads as it did. -/
def fnExactAdjustedSharesSpec : ChangeSpec := { name := "fnExactAdjustedShares", fn := fun _ => fun
  | [d] => { results := [.lit (.bool true)], args := [d] }
  | _ => none }
def fnExactAdjustedSharesRow : OpenClaim := { program := "ytkfgmpmeipilnaa", sum := "c35aa5e99aa10762d6fa87f2d5eca77a3f014c0478321650c5d5f89529fd3333", func := "loop.example/g03202/laws.FnExactAdjustedShares", spec := "fnExactAdjustedShares", unfollowed := true, recurses := true, apart := false }
def FnExactAdjustedSharesSaid : Prop := fnExactAdjustedSharesRow.holds Try.pinned (OpenSpec.ofChange fnExactAdjustedSharesSpec)

/-- ITS FALSE NEIGHBOUR: 'it returns false'. Refute it at one input. -/
def fnExactAdjustedSharesWrong : ChangeSpec := { name := "fnExactAdjustedShares", fn := fun _ => fun
  | [d] => { results := [.lit (.bool false)], args := [d] }
  | _ => none }
def FnExactAdjustedSharesWrongFalsely : Prop := fnExactAdjustedSharesRow.holds Try.pinned (OpenSpec.ofChange fnExactAdjustedSharesWrong)

/-- 'laws.FnExactSplitLottery': WHATEVER THE INPUT: true; the input reads as it did. -/
def fnExactSplitLotterySpec : ChangeSpec := { name := "fnExactSplitLottery", fn := fun _ => fun
  | [d] => { results := [.lit (.bool true)], args := [d] }
  | _ => none }
def fnExactSplitLotteryRow : OpenClaim := { program := "ytkfgmpmeipilnaa", sum := "c35aa5e99aa10762d6fa87f2d5eca77a3f014c0478321650c5d5f89529fd3333", func := "loop.example/g03202/laws.FnExactSplitLottery", spec := "fnExactSplitLottery", unfollowed := true, recurses := true, apart := false }
def FnExactSplitLotterySaid : Prop := fnExactSplitLotteryRow.holds Try.pinned (OpenSpec.ofChange fnExactSplitLotterySpec)

/-- ITS FALSE NEIGHBOUR: 'it returns false'. Refute it at one input. -/
def fnExactSplitLotteryWrong : ChangeSpec := { name := "fnExactSplitLottery", fn := fun _ => fun
  | [d] => { results := [.lit (.bool false)], args := [d] }
  | _ => none }
def FnExactSplitLotteryWrongFalsely : Prop := fnExactSplitLotteryRow.holds Try.pinned (OpenSpec.ofChange fnExactSplitLotteryWrong)

/-- 'laws.FnExactAllDivisions': WHATEVER THE INPUT: true; the input reads as it did. -/
def fnExactAllDivisionsSpec : ChangeSpec := { name := "fnExactAllDivisions", fn := fun _ => fun
  | [d] => { results := [.lit (.bool true)], args := [d] }
  | _ => none }
def fnExactAllDivisionsRow : OpenClaim := { program := "ytkfgmpmeipilnaa", sum := "c35aa5e99aa10762d6fa87f2d5eca77a3f014c0478321650c5d5f89529fd3333", func := "loop.example/g03202/laws.FnExactAllDivisions", spec := "fnExactAllDivisions", unfollowed := true, recurses := true, apart := false }
def FnExactAllDivisionsSaid : Prop := fnExactAllDivisionsRow.holds Try.pinned (OpenSpec.ofChange fnExactAllDivisionsSpec)

/-- ITS FALSE NEIGHBOUR: 'it returns false'. Refute it at one input. -/
def fnExactAllDivisionsWrong : ChangeSpec := { name := "fnExactAllDivisions", fn := fun _ => fun
  | [d] => { results := [.lit (.bool false)], args := [d] }
  | _ => none }
def FnExactAllDivisionsWrongFalsely : Prop := fnExactAllDivisionsRow.holds Try.pinned (OpenSpec.ofChange fnExactAllDivisionsWrong)

/-- 'laws.FnExactCountCalm': WHATEVER THE INPUT: true; the input reads as it did. -/
def fnExactCountCalmSpec : ChangeSpec := { name := "fnExactCountCalm", fn := fun _ => fun
  | [d] => { results := [.lit (.bool true)], args := [d] }
  | _ => none }
def fnExactCountCalmRow : OpenClaim := { program := "ytkfgmpmeipilnaa", sum := "c35aa5e99aa10762d6fa87f2d5eca77a3f014c0478321650c5d5f89529fd3333", func := "loop.example/g03202/laws.FnExactCountCalm", spec := "fnExactCountCalm", unfollowed := true, recurses := true, apart := false }
def FnExactCountCalmSaid : Prop := fnExactCountCalmRow.holds Try.pinned (OpenSpec.ofChange fnExactCountCalmSpec)

/-- ITS FALSE NEIGHBOUR: 'it returns false'. Refute it at one input. -/
def fnExactCountCalmWrong : ChangeSpec := { name := "fnExactCountCalm", fn := fun _ => fun
  | [d] => { results := [.lit (.bool false)], args := [d] }
  | _ => none }
def FnExactCountCalmWrongFalsely : Prop := fnExactCountCalmRow.holds Try.pinned (OpenSpec.ofChange fnExactCountCalmWrong)

/- THE SECOND FORM. 'bulk': how many values and letters a reading holds, each counted each time it is reached (what is shared counts as often as it is met; a slice's spare places count too). A statement '..UptoSaid' is the law's where the arguments, and the package variables that the reading takes, are together of bulk at most 1048576: NARROWER than '..Said'. Prove '..Said' where nothing that the law and all that it calls make is longer than what came in: it says more and counts as full. Else prove '..UptoSaid'. A law counts once. -/
mutual
def uptoBulk {H : Type} : DataW H → Nat
  | .lit (.string bytes) => bytes.length + 1
  | .lit _ => 1
  | .nil => 1
  | .ptr d => uptoBulk d + 1
  | .slice elems spare => uptoBulkAll elems + uptoBulkAll spare + 1
  | .agg parts => uptoBulkAll parts + 1
  | .iface _ d => uptoBulk d + 1
  | .map entries => uptoBulkEntries entries + 1
  | .held _ => 1
def uptoBulkAll {H : Type} : List (DataW H) → Nat
  | [] => 0
  | d :: r => uptoBulk d + uptoBulkAll r
def uptoBulkEntries {H : Type} : List (Lit × DataW H) → Nat
  | [] => 0
  | x :: r => uptoBulkEntry x + uptoBulkEntries r
def uptoBulkEntry {H : Type} : Lit × DataW H → Nat
  | (.string bytes, d) => bytes.length + uptoBulk d + 1
  | (_, d) => uptoBulk d + 1
 end
def uptoSmall : (H : Type) → List (DataW H) → Bool := fun _ ds => decide (uptoBulkAll ds ≤ 1048576)
def OpenSpec.upto (s : _root_.Go.ChangeSpec) : _root_.Go.OpenSpec := { _root_.Go.OpenSpec.ofChange s with cond := some uptoSmall }

/-- 'laws.FnExactEatTogether', WHERE WHAT IT READS IS OF BULK AT MOST 1048576: true; the input reads as it did. -/
def fnExactEatTogetherUptoRow : OpenClaim := { program := "ytkfgmpmeipilnaa", sum := "c35aa5e99aa10762d6fa87f2d5eca77a3f014c0478321650c5d5f89529fd3333", func := "loop.example/g03202/laws.FnExactEatTogether", spec := "fnExactEatTogether", unfollowed := true, recurses := true, apart := false, narrowed := true }
def FnExactEatTogetherUptoSaid : Prop := fnExactEatTogetherUptoRow.holds Try.pinned (OpenSpec.upto fnExactEatTogetherSpec)

/-- 'laws.FnExactMixOf', WHERE WHAT IT READS IS OF BULK AT MOST 1048576: true; the input reads as it did. -/
def fnExactMixOfUptoRow : OpenClaim := { program := "ytkfgmpmeipilnaa", sum := "c35aa5e99aa10762d6fa87f2d5eca77a3f014c0478321650c5d5f89529fd3333", func := "loop.example/g03202/laws.FnExactMixOf", spec := "fnExactMixOf", unfollowed := true, recurses := true, apart := false, narrowed := true }
def FnExactMixOfUptoSaid : Prop := fnExactMixOfUptoRow.holds Try.pinned (OpenSpec.upto fnExactMixOfSpec)

/-- 'laws.FnExactRandomSerial', WHERE WHAT IT READS IS OF BULK AT MOST 1048576: true; the input reads as it did. -/
def fnExactRandomSerialUptoRow : OpenClaim := { program := "ytkfgmpmeipilnaa", sum := "c35aa5e99aa10762d6fa87f2d5eca77a3f014c0478321650c5d5f89529fd3333", func := "loop.example/g03202/laws.FnExactRandomSerial", spec := "fnExactRandomSerial", unfollowed := true, recurses := true, apart := false, narrowed := true }
def FnExactRandomSerialUptoSaid : Prop := fnExactRandomSerialUptoRow.holds Try.pinned (OpenSpec.upto fnExactRandomSerialSpec)

/-- 'laws.FnExactAdjustedShares', WHERE WHAT IT READS IS OF BULK AT MOST 1048576: true; the input reads as it did. -/
def fnExactAdjustedSharesUptoRow : OpenClaim := { program := "ytkfgmpmeipilnaa", sum := "c35aa5e99aa10762d6fa87f2d5eca77a3f014c0478321650c5d5f89529fd3333", func := "loop.example/g03202/laws.FnExactAdjustedShares", spec := "fnExactAdjustedShares", unfollowed := true, recurses := true, apart := false, narrowed := true }
def FnExactAdjustedSharesUptoSaid : Prop := fnExactAdjustedSharesUptoRow.holds Try.pinned (OpenSpec.upto fnExactAdjustedSharesSpec)

/-- 'laws.FnExactSplitLottery', WHERE WHAT IT READS IS OF BULK AT MOST 1048576: true; the input reads as it did. -/
def fnExactSplitLotteryUptoRow : OpenClaim := { program := "ytkfgmpmeipilnaa", sum := "c35aa5e99aa10762d6fa87f2d5eca77a3f014c0478321650c5d5f89529fd3333", func := "loop.example/g03202/laws.FnExactSplitLottery", spec := "fnExactSplitLottery", unfollowed := true, recurses := true, apart := false, narrowed := true }
def FnExactSplitLotteryUptoSaid : Prop := fnExactSplitLotteryUptoRow.holds Try.pinned (OpenSpec.upto fnExactSplitLotterySpec)

/-- 'laws.FnExactAllDivisions', WHERE WHAT IT READS IS OF BULK AT MOST 1048576: true; the input reads as it did. -/
def fnExactAllDivisionsUptoRow : OpenClaim := { program := "ytkfgmpmeipilnaa", sum := "c35aa5e99aa10762d6fa87f2d5eca77a3f014c0478321650c5d5f89529fd3333", func := "loop.example/g03202/laws.FnExactAllDivisions", spec := "fnExactAllDivisions", unfollowed := true, recurses := true, apart := false, narrowed := true }
def FnExactAllDivisionsUptoSaid : Prop := fnExactAllDivisionsUptoRow.holds Try.pinned (OpenSpec.upto fnExactAllDivisionsSpec)

/-- 'laws.FnExactCountCalm', WHERE WHAT IT READS IS OF BULK AT MOST 1048576: true; the input reads as it did. -/
def fnExactCountCalmUptoRow : OpenClaim := { program := "ytkfgmpmeipilnaa", sum := "c35aa5e99aa10762d6fa87f2d5eca77a3f014c0478321650c5d5f89529fd3333", func := "loop.example/g03202/laws.FnExactCountCalm", spec := "fnExactCountCalm", unfollowed := true, recurses := true, apart := false, narrowed := true }
def FnExactCountCalmUptoSaid : Prop := fnExactCountCalmUptoRow.holds Try.pinned (OpenSpec.upto fnExactCountCalmSpec)

end Rows
end Go.Proofs.Ytkfgmpmeipilnaa
