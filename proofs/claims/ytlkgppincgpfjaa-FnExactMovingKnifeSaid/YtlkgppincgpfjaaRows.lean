/-
  No cell of these rows narrows 'for every input' (looked for: loops, veiled, ifaces, maps, wideKeys, modest, calm, conditions, laid).
  DERIVED. THE GIVEN ROWS OF THIS SEAT. 2 by the template 'for every input the law returns true; each argument reads behind the call as it read before'; 0 by the template 'total and deterministic' (their statements: YtlkgppincgpfjaaTotals.lean).
  GIVEN WITH THE SEED: the statements are not yours to turn. If you find one false, say at which input.
  Laid BY PROGRAM, IN A SANDBOX (cutbox-rows.mjs): the forced cells as the released guide's own fill.sh prints them over the translation af9ea7db5ad7306a… (all of the seat's roots in one cut). By AI agents, Wed Nov 11 2026. No macro, syntax, notation, axiom, sorry.
-/
import Derived.Test.YtlkgppincgpfjaaChecked
import GoSem.Claim
import GoSem.ClaimJoined
import GoSem.ClaimMapViews
import Derived.JoinedTies
import Derived.KernelRfl
namespace Go.Proofs.Ytlkgppincgpfjaa
/- THE CELL 'sum', in the pinned program and in every row, IS THE sha256 OF THE DUMP (.gsa) THAT YtlkgppincgpfjaaProg.lean LOADS. Nothing in Lean hashes anything: it is a label: what it is worth is what the hold of that sum in a sandbox is worth. -/
noncomputable def Try.pinned : Pinned := { name := "ytlkgppincgpfjaa", sum := "af9ea7db5ad7306acdbbbbab98474234acb17a7b75e3102d7d94dc3a34d8cc8e", checked := Try.checked }
namespace Rows
def none {H : Type} : Left H := { results := [], args := [] }

/-- 'laws.FnExactRandomSerial': WHATEVER THE INPUT: true; the input reads as it did. -/
def fnExactRandomSerialSpec : ChangeSpec := { name := "fnExactRandomSerial", fn := fun _ => fun
  | [d] => { results := [.lit (.bool true)], args := [d] }
  | _ => none }
def fnExactRandomSerialRow : OpenClaim := { program := "ytlkgppincgpfjaa", sum := "af9ea7db5ad7306acdbbbbab98474234acb17a7b75e3102d7d94dc3a34d8cc8e", func := "loop.example/g03202/laws.FnExactRandomSerial", spec := "fnExactRandomSerial", unfollowed := true, recurses := true, apart := false }
def FnExactRandomSerialSaid : Prop := fnExactRandomSerialRow.holds Try.pinned (OpenSpec.ofChange fnExactRandomSerialSpec)

/-- ITS FALSE NEIGHBOUR: 'it returns false'. Refute it at one input. -/
def fnExactRandomSerialWrong : ChangeSpec := { name := "fnExactRandomSerial", fn := fun _ => fun
  | [d] => { results := [.lit (.bool false)], args := [d] }
  | _ => none }
def FnExactRandomSerialWrongFalsely : Prop := fnExactRandomSerialRow.holds Try.pinned (OpenSpec.ofChange fnExactRandomSerialWrong)

/-- 'laws.FnExactMovingKnife': WHATEVER THE INPUT: true; the input reads as it did. -/
def fnExactMovingKnifeSpec : ChangeSpec := { name := "fnExactMovingKnife", fn := fun _ => fun
  | [d] => { results := [.lit (.bool true)], args := [d] }
  | _ => none }
def fnExactMovingKnifeRow : OpenClaim := { program := "ytlkgppincgpfjaa", sum := "af9ea7db5ad7306acdbbbbab98474234acb17a7b75e3102d7d94dc3a34d8cc8e", func := "loop.example/g03202/laws.FnExactMovingKnife", spec := "fnExactMovingKnife", unfollowed := true, recurses := true, apart := false }
def FnExactMovingKnifeSaid : Prop := fnExactMovingKnifeRow.holds Try.pinned (OpenSpec.ofChange fnExactMovingKnifeSpec)

/-- ITS FALSE NEIGHBOUR: 'it returns false'. Refute it at one input. -/
def fnExactMovingKnifeWrong : ChangeSpec := { name := "fnExactMovingKnife", fn := fun _ => fun
  | [d] => { results := [.lit (.bool false)], args := [d] }
  | _ => none }
def FnExactMovingKnifeWrongFalsely : Prop := fnExactMovingKnifeRow.holds Try.pinned (OpenSpec.ofChange fnExactMovingKnifeWrong)

/- THE SECOND FORM. 'bulk': how many values and letters a reading holds, each counted each time it is reached (what is shared counts as often as it is met; a slice's spare places count too). A statement '..UptoSaid' is the law's where the arguments, and the package variables that the reading takes, are together of bulk at most 1048576: NARROWER than '..Said'. Prove '..Said' where nothing that the law and all that it calls make is longer than what came in: it says more and counts as full. Else prove '..UptoSaid'. A law counts once. -/
mutual
def uptoBulk {H : Type} : DataW H → Nat
  | .lit (.string bytes) => bytes.length + 1
  | .lit _ => 1
  | .nil => 1
  | .ptr d => uptoBulk d + 1
  | .slice elems spare => uptoBulkAll elems + uptoBulkAll spare + 1
  | .agg parts => uptoBulkAll parts + 1
  | .iface _ d => uptoBulk d + 1
  | .map entries => uptoBulkEntries entries + 1
  | .held _ => 1
def uptoBulkAll {H : Type} : List (DataW H) → Nat
  | [] => 0
  | d :: r => uptoBulk d + uptoBulkAll r
def uptoBulkEntries {H : Type} : List (Lit × DataW H) → Nat
  | [] => 0
  | x :: r => uptoBulkEntry x + uptoBulkEntries r
def uptoBulkEntry {H : Type} : Lit × DataW H → Nat
  | (.string bytes, d) => bytes.length + uptoBulk d + 1
  | (_, d) => uptoBulk d + 1
 end
def uptoSmall : (H : Type) → List (DataW H) → Bool := fun _ ds => decide (uptoBulkAll ds ≤ 1048576)
def OpenSpec.upto (s : _root_.Go.ChangeSpec) : _root_.Go.OpenSpec := { _root_.Go.OpenSpec.ofChange s with cond := some uptoSmall }

/-- 'laws.FnExactRandomSerial', WHERE WHAT IT READS IS OF BULK AT MOST 1048576: true; the input reads as it did. -/
def fnExactRandomSerialUptoRow : OpenClaim := { program := "ytlkgppincgpfjaa", sum := "af9ea7db5ad7306acdbbbbab98474234acb17a7b75e3102d7d94dc3a34d8cc8e", func := "loop.example/g03202/laws.FnExactRandomSerial", spec := "fnExactRandomSerial", unfollowed := true, recurses := true, apart := false, narrowed := true }
def FnExactRandomSerialUptoSaid : Prop := fnExactRandomSerialUptoRow.holds Try.pinned (OpenSpec.upto fnExactRandomSerialSpec)

/-- 'laws.FnExactMovingKnife', WHERE WHAT IT READS IS OF BULK AT MOST 1048576: true; the input reads as it did. -/
def fnExactMovingKnifeUptoRow : OpenClaim := { program := "ytlkgppincgpfjaa", sum := "af9ea7db5ad7306acdbbbbab98474234acb17a7b75e3102d7d94dc3a34d8cc8e", func := "loop.example/g03202/laws.FnExactMovingKnife", spec := "fnExactMovingKnife", unfollowed := true, recurses := true, apart := false, narrowed := true }
def FnExactMovingKnifeUptoSaid : Prop := fnExactMovingKnifeUptoRow.holds Try.pinned (OpenSpec.upto fnExactMovingKnifeSpec)

end Rows
end Go.Proofs.Ytlkgppincgpfjaa
