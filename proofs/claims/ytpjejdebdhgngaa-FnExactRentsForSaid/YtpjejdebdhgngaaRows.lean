/-
  No cell of these rows narrows 'for every input' (looked for: loops, veiled, ifaces, maps, wideKeys, modest, calm, conditions, laid).
  DERIVED. THE GIVEN ROWS OF THIS SEAT. 7 by the template 'for every input the law returns true; each argument reads behind the call as it read before'; 0 by the template 'total and deterministic' (their statements: YtpjejdebdhgngaaTotals.lean).
  GIVEN WITH THE SEED: the statements are not yours to turn. If you find one false, say at which input.
  Laid BY PROGRAM, IN A SANDBOX (cutbox-rows.mjs): the forced cells as the released guide's own fill.sh prints them over the translation 06ebc4eda4bf5b2c… (all of the seat's roots in one cut). By AI agents, Wed Nov 11 2026. No macro, syntax, notation, axiom, sorry.
-/
import Derived.Test.YtpjejdebdhgngaaChecked
import GoSem.Claim
import GoSem.ClaimJoined
import GoSem.ClaimMapViews
import Derived.JoinedTies
import Derived.KernelRfl
namespace Go.Proofs.Ytpjejdebdhgngaa
/- THE CELL 'sum', in the pinned program and in every row, IS THE sha256 OF THE DUMP (.gsa) THAT YtpjejdebdhgngaaProg.lean LOADS. Nothing in Lean hashes anything: it is a label: what it is worth is what the hold of that sum in a sandbox is worth. -/
noncomputable def Try.pinned : Pinned := { name := "ytpjejdebdhgngaa", sum := "06ebc4eda4bf5b2c2665362259d2cda01cb9e32d62a6cd4a35c6e72983eee03b", checked := Try.checked }
namespace Rows
def none {H : Type} : Left H := { results := [], args := [] }

/-- 'laws.FnExactRentsFor': WHATEVER THE INPUT: true; the input reads as it did. -/
def fnExactRentsForSpec : ChangeSpec := { name := "fnExactRentsFor", fn := fun _ => fun
  | [d1, d2] => { results := [.lit (.bool true)], args := [d1, d2] }
  | _ => none }
def fnExactRentsForRow : OpenClaim := { program := "ytpjejdebdhgngaa", sum := "06ebc4eda4bf5b2c2665362259d2cda01cb9e32d62a6cd4a35c6e72983eee03b", func := "loop.example/g03202/laws.FnExactRentsFor", spec := "fnExactRentsFor", unfollowed := true, recurses := true, apart := false }
def FnExactRentsForSaid : Prop := fnExactRentsForRow.holds Try.pinned (OpenSpec.ofChange fnExactRentsForSpec)

/-- ITS FALSE NEIGHBOUR: 'it returns false'. Refute it at one input. -/
def fnExactRentsForWrong : ChangeSpec := { name := "fnExactRentsFor", fn := fun _ => fun
  | [d1, d2] => { results := [.lit (.bool false)], args := [d1, d2] }
  | _ => none }
def FnExactRentsForWrongFalsely : Prop := fnExactRentsForRow.holds Try.pinned (OpenSpec.ofChange fnExactRentsForWrong)

/-- 'laws.FnExactTransferOrder': WHATEVER THE INPUT: true; the input reads as it did. -/
def fnExactTransferOrderSpec : ChangeSpec := { name := "fnExactTransferOrder", fn := fun _ => fun
  | [d1, d2] => { results := [.lit (.bool true)], args := [d1, d2] }
  | _ => none }
def fnExactTransferOrderRow : OpenClaim := { program := "ytpjejdebdhgngaa", sum := "06ebc4eda4bf5b2c2665362259d2cda01cb9e32d62a6cd4a35c6e72983eee03b", func := "loop.example/g03202/laws.FnExactTransferOrder", spec := "fnExactTransferOrder", unfollowed := true, recurses := true, apart := false }
def FnExactTransferOrderSaid : Prop := fnExactTransferOrderRow.holds Try.pinned (OpenSpec.ofChange fnExactTransferOrderSpec)

/-- ITS FALSE NEIGHBOUR: 'it returns false'. Refute it at one input. -/
def fnExactTransferOrderWrong : ChangeSpec := { name := "fnExactTransferOrder", fn := fun _ => fun
  | [d1, d2] => { results := [.lit (.bool false)], args := [d1, d2] }
  | _ => none }
def FnExactTransferOrderWrongFalsely : Prop := fnExactTransferOrderRow.holds Try.pinned (OpenSpec.ofChange fnExactTransferOrderWrong)

/-- 'laws.FnExactMixOf': WHATEVER THE INPUT: true; the input reads as it did. -/
def fnExactMixOfSpec : ChangeSpec := { name := "fnExactMixOf", fn := fun _ => fun
  | [d1, d2] => { results := [.lit (.bool true)], args := [d1, d2] }
  | _ => none }
def fnExactMixOfRow : OpenClaim := { program := "ytpjejdebdhgngaa", sum := "06ebc4eda4bf5b2c2665362259d2cda01cb9e32d62a6cd4a35c6e72983eee03b", func := "loop.example/g03202/laws.FnExactMixOf", spec := "fnExactMixOf", unfollowed := true, recurses := true, apart := false }
def FnExactMixOfSaid : Prop := fnExactMixOfRow.holds Try.pinned (OpenSpec.ofChange fnExactMixOfSpec)

/-- ITS FALSE NEIGHBOUR: 'it returns false'. Refute it at one input. -/
def fnExactMixOfWrong : ChangeSpec := { name := "fnExactMixOf", fn := fun _ => fun
  | [d1, d2] => { results := [.lit (.bool false)], args := [d1, d2] }
  | _ => none }
def FnExactMixOfWrongFalsely : Prop := fnExactMixOfRow.holds Try.pinned (OpenSpec.ofChange fnExactMixOfWrong)

/-- 'laws.FnExactRandomSerial': WHATEVER THE INPUT: true; the input reads as it did. -/
def fnExactRandomSerialSpec : ChangeSpec := { name := "fnExactRandomSerial", fn := fun _ => fun
  | [d] => { results := [.lit (.bool true)], args := [d] }
  | _ => none }
def fnExactRandomSerialRow : OpenClaim := { program := "ytpjejdebdhgngaa", sum := "06ebc4eda4bf5b2c2665362259d2cda01cb9e32d62a6cd4a35c6e72983eee03b", func := "loop.example/g03202/laws.FnExactRandomSerial", spec := "fnExactRandomSerial", unfollowed := true, recurses := true, apart := false }
def FnExactRandomSerialSaid : Prop := fnExactRandomSerialRow.holds Try.pinned (OpenSpec.ofChange fnExactRandomSerialSpec)

/-- ITS FALSE NEIGHBOUR: 'it returns false'. Refute it at one input. -/
def fnExactRandomSerialWrong : ChangeSpec := { name := "fnExactRandomSerial", fn := fun _ => fun
  | [d] => { results := [.lit (.bool false)], args := [d] }
  | _ => none }
def FnExactRandomSerialWrongFalsely : Prop := fnExactRandomSerialRow.holds Try.pinned (OpenSpec.ofChange fnExactRandomSerialWrong)

/-- 'laws.FnExactEatTogether': WHATEVER THE INPUT: true; the input reads as it did. -/
def fnExactEatTogetherSpec : ChangeSpec := { name := "fnExactEatTogether", fn := fun _ => fun
  | [d] => { results := [.lit (.bool true)], args := [d] }
  | _ => none }
def fnExactEatTogetherRow : OpenClaim := { program := "ytpjejdebdhgngaa", sum := "06ebc4eda4bf5b2c2665362259d2cda01cb9e32d62a6cd4a35c6e72983eee03b", func := "loop.example/g03202/laws.FnExactEatTogether", spec := "fnExactEatTogether", unfollowed := true, recurses := true, apart := false }
def FnExactEatTogetherSaid : Prop := fnExactEatTogetherRow.holds Try.pinned (OpenSpec.ofChange fnExactEatTogetherSpec)

/-- ITS FALSE NEIGHBOUR: 'it returns false'. Refute it at one input. -/
def fnExactEatTogetherWrong : ChangeSpec := { name := "fnExactEatTogether", fn := fun _ => fun
  | [d] => { results := [.lit (.bool false)], args := [d] }
  | _ => none }
def FnExactEatTogetherWrongFalsely : Prop := fnExactEatTogetherRow.holds Try.pinned (OpenSpec.ofChange fnExactEatTogetherWrong)

/-- 'laws.FnExactMovingKnife': WHATEVER THE INPUT: true; the input reads as it did. -/
def fnExactMovingKnifeSpec : ChangeSpec := { name := "fnExactMovingKnife", fn := fun _ => fun
  | [d] => { results := [.lit (.bool true)], args := [d] }
  | _ => none }
def fnExactMovingKnifeRow : OpenClaim := { program := "ytpjejdebdhgngaa", sum := "06ebc4eda4bf5b2c2665362259d2cda01cb9e32d62a6cd4a35c6e72983eee03b", func := "loop.example/g03202/laws.FnExactMovingKnife", spec := "fnExactMovingKnife", unfollowed := true, recurses := true, apart := false }
def FnExactMovingKnifeSaid : Prop := fnExactMovingKnifeRow.holds Try.pinned (OpenSpec.ofChange fnExactMovingKnifeSpec)

/-- ITS FALSE NEIGHBOUR: 'it returns false'. Refute it at one input. -/
def fnExactMovingKnifeWrong : ChangeSpec := { name := "fnExactMovingKnife", fn := fun _ => fun
  | [d] => { results := [.lit (.bool false)], args := [d] }
  | _ => none }
def FnExactMovingKnifeWrongFalsely : Prop := fnExactMovingKnifeRow.holds Try.pinned (OpenSpec.ofChange fnExactMovingKnifeWrong)

/-- 'laws.FnExactCountCalm': WHATEVER THE INPUT: true; the input reads as it did. -/
def fnExactCountCalmSpec : ChangeSpec := { name := "fnExactCountCalm", fn := fun _ => fun
  | [d] => { results := [.lit (.bool true)], args := [d] }
  | _ => none }
def fnExactCountCalmRow : OpenClaim := { program := "ytpjejdebdhgngaa", sum := "06ebc4eda4bf5b2c2665362259d2cda01cb9e32d62a6cd4a35c6e72983eee03b", func := "loop.example/g03202/laws.FnExactCountCalm", spec := "fnExactCountCalm", unfollowed := true, recurses := true, apart := false }
def FnExactCountCalmSaid : Prop := fnExactCountCalmRow.holds Try.pinned (OpenSpec.ofChange fnExactCountCalmSpec)

/-- ITS FALSE NEIGHBOUR: 'it returns false'. Refute it at one input. -/
def fnExactCountCalmWrong : ChangeSpec := { name := "fnExactCountCalm", fn := fun _ => fun
  | [d] => { results := [.lit (.bool false)], args := [d] }
  | _ => none }
def FnExactCountCalmWrongFalsely : Prop := fnExactCountCalmRow.holds Try.pinned (OpenSpec.ofChange fnExactCountCalmWrong)

/- THE SECOND FORM. 'bulk': how many values and letters a reading holds, each counted each time it is reached (what is shared counts as often as it is met; a slice's spare places count too). A statement '..UptoSaid' is the law's where the arguments, and the package variables that the reading takes, are together of bulk at most 1048576: NARROWER than '..Said'. Prove '..Said' where nothing that the law and all that it calls make is longer than what came in: it says more and counts as full. Else prove '..UptoSaid'. A law counts once. -/
mutual
def uptoBulk {H : Type} : DataW H → Nat
  | .lit (.string bytes) => bytes.length + 1
  | .lit _ => 1
  | .nil => 1
  | .ptr d => uptoBulk d + 1
  | .slice elems spare => uptoBulkAll elems + uptoBulkAll spare + 1
  | .agg parts => uptoBulkAll parts + 1
  | .iface _ d => uptoBulk d + 1
  | .map entries => uptoBulkEntries entries + 1
  | .held _ => 1
def uptoBulkAll {H : Type} : List (DataW H) → Nat
  | [] => 0
  | d :: r => uptoBulk d + uptoBulkAll r
def uptoBulkEntries {H : Type} : List (Lit × DataW H) → Nat
  | [] => 0
  | x :: r => uptoBulkEntry x + uptoBulkEntries r
def uptoBulkEntry {H : Type} : Lit × DataW H → Nat
  | (.string bytes, d) => bytes.length + uptoBulk d + 1
  | (_, d) => uptoBulk d + 1
 end
def uptoSmall : (H : Type) → List (DataW H) → Bool := fun _ ds => decide (uptoBulkAll ds ≤ 1048576)
def OpenSpec.upto (s : _root_.Go.ChangeSpec) : _root_.Go.OpenSpec := { _root_.Go.OpenSpec.ofChange s with cond := some uptoSmall }

/-- 'laws.FnExactRentsFor', WHERE WHAT IT READS IS OF BULK AT MOST 1048576: true; the input reads as it did. -/
def fnExactRentsForUptoRow : OpenClaim := { program := "ytpjejdebdhgngaa", sum := "06ebc4eda4bf5b2c2665362259d2cda01cb9e32d62a6cd4a35c6e72983eee03b", func := "loop.example/g03202/laws.FnExactRentsFor", spec := "fnExactRentsFor", unfollowed := true, recurses := true, apart := false, narrowed := true }
def FnExactRentsForUptoSaid : Prop := fnExactRentsForUptoRow.holds Try.pinned (OpenSpec.upto fnExactRentsForSpec)

/-- 'laws.FnExactTransferOrder', WHERE WHAT IT READS IS OF BULK AT MOST 1048576: true; the input reads as it did. -/
def fnExactTransferOrderUptoRow : OpenClaim := { program := "ytpjejdebdhgngaa", sum := "06ebc4eda4bf5b2c2665362259d2cda01cb9e32d62a6cd4a35c6e72983eee03b", func := "loop.example/g03202/laws.FnExactTransferOrder", spec := "fnExactTransferOrder", unfollowed := true, recurses := true, apart := false, narrowed := true }
def FnExactTransferOrderUptoSaid : Prop := fnExactTransferOrderUptoRow.holds Try.pinned (OpenSpec.upto fnExactTransferOrderSpec)

/-- 'laws.FnExactMixOf', WHERE WHAT IT READS IS OF BULK AT MOST 1048576: true; the input reads as it did. -/
def fnExactMixOfUptoRow : OpenClaim := { program := "ytpjejdebdhgngaa", sum := "06ebc4eda4bf5b2c2665362259d2cda01cb9e32d62a6cd4a35c6e72983eee03b", func := "loop.example/g03202/laws.FnExactMixOf", spec := "fnExactMixOf", unfollowed := true, recurses := true, apart := false, narrowed := true }
def FnExactMixOfUptoSaid : Prop := fnExactMixOfUptoRow.holds Try.pinned (OpenSpec.upto fnExactMixOfSpec)

/-- 'laws.FnExactRandomSerial', WHERE WHAT IT READS IS OF BULK AT MOST 1048576: true; the input reads as it did. -/
def fnExactRandomSerialUptoRow : OpenClaim := { program := "ytpjejdebdhgngaa", sum := "06ebc4eda4bf5b2c2665362259d2cda01cb9e32d62a6cd4a35c6e72983eee03b", func := "loop.example/g03202/laws.FnExactRandomSerial", spec := "fnExactRandomSerial", unfollowed := true, recurses := true, apart := false, narrowed := true }
def FnExactRandomSerialUptoSaid : Prop := fnExactRandomSerialUptoRow.holds Try.pinned (OpenSpec.upto fnExactRandomSerialSpec)

/-- 'laws.FnExactEatTogether', WHERE WHAT IT READS IS OF BULK AT MOST 1048576: true; the input reads as it did. -/
def fnExactEatTogetherUptoRow : OpenClaim := { program := "ytpjejdebdhgngaa", sum := "06ebc4eda4bf5b2c2665362259d2cda01cb9e32d62a6cd4a35c6e72983eee03b", func := "loop.example/g03202/laws.FnExactEatTogether", spec := "fnExactEatTogether", unfollowed := true, recurses := true, apart := false, narrowed := true }
def FnExactEatTogetherUptoSaid : Prop := fnExactEatTogetherUptoRow.holds Try.pinned (OpenSpec.upto fnExactEatTogetherSpec)

/-- 'laws.FnExactMovingKnife', WHERE WHAT IT READS IS OF BULK AT MOST 1048576: true; the input reads as it did. -/
def fnExactMovingKnifeUptoRow : OpenClaim := { program := "ytpjejdebdhgngaa", sum := "06ebc4eda4bf5b2c2665362259d2cda01cb9e32d62a6cd4a35c6e72983eee03b", func := "loop.example/g03202/laws.FnExactMovingKnife", spec := "fnExactMovingKnife", unfollowed := true, recurses := true, apart := false, narrowed := true }
def FnExactMovingKnifeUptoSaid : Prop := fnExactMovingKnifeUptoRow.holds Try.pinned (OpenSpec.upto fnExactMovingKnifeSpec)

/-- 'laws.FnExactCountCalm', WHERE WHAT IT READS IS OF BULK AT MOST 1048576: true; the input reads as it did. -/
def fnExactCountCalmUptoRow : OpenClaim := { program := "ytpjejdebdhgngaa", sum := "06ebc4eda4bf5b2c2665362259d2cda01cb9e32d62a6cd4a35c6e72983eee03b", func := "loop.example/g03202/laws.FnExactCountCalm", spec := "fnExactCountCalm", unfollowed := true, recurses := true, apart := false, narrowed := true }
def FnExactCountCalmUptoSaid : Prop := fnExactCountCalmUptoRow.holds Try.pinned (OpenSpec.upto fnExactCountCalmSpec)

end Rows
end Go.Proofs.Ytpjejdebdhgngaa
