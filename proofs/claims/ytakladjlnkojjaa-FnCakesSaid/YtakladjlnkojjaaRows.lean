/-
  No cell of these rows narrows 'for every input' (looked for: loops, veiled, ifaces, maps, wideKeys, modest, calm, conditions, laid).
  DERIVED. THE GIVEN ROWS OF THIS SEAT. 3 by the template 'for every input the law returns true; each argument reads behind the call as it read before'; 0 by the template 'total and deterministic' (their statements: YtakladjlnkojjaaTotals.lean).
  GIVEN WITH THE SEED: the statements are not yours to turn. If you find one false, say at which input.
  Laid BY PROGRAM, IN A SANDBOX (cutbox-rows.mjs): the forced cells as the released guide's own fill.sh prints them over the translation bc7eba4f19537f2c… (all of the seat's roots in one cut). By AI agents, Wed Nov 11 2026. No macro, syntax, notation, axiom, sorry.
-/
import Derived.Test.YtakladjlnkojjaaChecked
import GoSem.Claim
import GoSem.ClaimJoined
import GoSem.ClaimMapViews
import Derived.JoinedTies
import Derived.KernelRfl
namespace Go.Proofs.Ytakladjlnkojjaa
/- THE CELL 'sum', in the pinned program and in every row, IS THE sha256 OF THE DUMP (.gsa) THAT YtakladjlnkojjaaProg.lean LOADS. Nothing in Lean hashes anything: it is a label: what it is worth is what the hold of that sum in a sandbox is worth. -/
noncomputable def Try.pinned : Pinned := { name := "ytakladjlnkojjaa", sum := "bc7eba4f19537f2ceace59b2acb89babba97670bf44f9411474db88374390891", checked := Try.checked }
namespace Rows
def none {H : Type} : Left H := { results := [], args := [] }

/-- 'laws.FnAuctions': WHATEVER THE INPUT: true; the input reads as it did. -/
def fnAuctionsSpec : ChangeSpec := { name := "fnAuctions", fn := fun _ => fun
  | [d] => { results := [.lit (.bool true)], args := [d] }
  | _ => none }
def fnAuctionsRow : OpenClaim := { program := "ytakladjlnkojjaa", sum := "bc7eba4f19537f2ceace59b2acb89babba97670bf44f9411474db88374390891", func := "loop.example/g03202/laws.FnAuctions", spec := "fnAuctions", unfollowed := true, recurses := true, apart := false }
def FnAuctionsSaid : Prop := fnAuctionsRow.holds Try.pinned (OpenSpec.ofChange fnAuctionsSpec)

/-- ITS FALSE NEIGHBOUR: 'it returns false'. Refute it at one input. -/
def fnAuctionsWrong : ChangeSpec := { name := "fnAuctions", fn := fun _ => fun
  | [d] => { results := [.lit (.bool false)], args := [d] }
  | _ => none }
def FnAuctionsWrongFalsely : Prop := fnAuctionsRow.holds Try.pinned (OpenSpec.ofChange fnAuctionsWrong)

/-- 'laws.FnHeirs': WHATEVER THE INPUT: true; the input reads as it did. -/
def fnHeirsSpec : ChangeSpec := { name := "fnHeirs", fn := fun _ => fun
  | [d] => { results := [.lit (.bool true)], args := [d] }
  | _ => none }
def fnHeirsRow : OpenClaim := { program := "ytakladjlnkojjaa", sum := "bc7eba4f19537f2ceace59b2acb89babba97670bf44f9411474db88374390891", func := "loop.example/g03202/laws.FnHeirs", spec := "fnHeirs", unfollowed := true, recurses := true, apart := false }
def FnHeirsSaid : Prop := fnHeirsRow.holds Try.pinned (OpenSpec.ofChange fnHeirsSpec)

/-- ITS FALSE NEIGHBOUR: 'it returns false'. Refute it at one input. -/
def fnHeirsWrong : ChangeSpec := { name := "fnHeirs", fn := fun _ => fun
  | [d] => { results := [.lit (.bool false)], args := [d] }
  | _ => none }
def FnHeirsWrongFalsely : Prop := fnHeirsRow.holds Try.pinned (OpenSpec.ofChange fnHeirsWrong)

/-- 'laws.FnCakes': WHATEVER THE INPUT: true; the input reads as it did. -/
def fnCakesSpec : ChangeSpec := { name := "fnCakes", fn := fun _ => fun
  | [d] => { results := [.lit (.bool true)], args := [d] }
  | _ => none }
def fnCakesRow : OpenClaim := { program := "ytakladjlnkojjaa", sum := "bc7eba4f19537f2ceace59b2acb89babba97670bf44f9411474db88374390891", func := "loop.example/g03202/laws.FnCakes", spec := "fnCakes", unfollowed := true, recurses := true, apart := false }
def FnCakesSaid : Prop := fnCakesRow.holds Try.pinned (OpenSpec.ofChange fnCakesSpec)

/-- ITS FALSE NEIGHBOUR: 'it returns false'. Refute it at one input. -/
def fnCakesWrong : ChangeSpec := { name := "fnCakes", fn := fun _ => fun
  | [d] => { results := [.lit (.bool false)], args := [d] }
  | _ => none }
def FnCakesWrongFalsely : Prop := fnCakesRow.holds Try.pinned (OpenSpec.ofChange fnCakesWrong)

/- THE SECOND FORM. 'bulk': how many values and letters a reading holds, each counted each time it is reached (what is shared counts as often as it is met; a slice's spare places count too). A statement '..UptoSaid' is the law's where the arguments, and the package variables that the reading takes, are together of bulk at most 1048576: NARROWER than '..Said'. Prove '..Said' where nothing that the law and all that it calls make is longer than what came in: it says more and counts as full. Else prove '..UptoSaid'. A law counts once. -/
mutual
def uptoBulk {H : Type} : DataW H → Nat
  | .lit (.string bytes) => bytes.length + 1
  | .lit _ => 1
  | .nil => 1
  | .ptr d => uptoBulk d + 1
  | .slice elems spare => uptoBulkAll elems + uptoBulkAll spare + 1
  | .agg parts => uptoBulkAll parts + 1
  | .iface _ d => uptoBulk d + 1
  | .map entries => uptoBulkEntries entries + 1
  | .held _ => 1
def uptoBulkAll {H : Type} : List (DataW H) → Nat
  | [] => 0
  | d :: r => uptoBulk d + uptoBulkAll r
def uptoBulkEntries {H : Type} : List (Lit × DataW H) → Nat
  | [] => 0
  | x :: r => uptoBulkEntry x + uptoBulkEntries r
def uptoBulkEntry {H : Type} : Lit × DataW H → Nat
  | (.string bytes, d) => bytes.length + uptoBulk d + 1
  | (_, d) => uptoBulk d + 1
 end
def uptoSmall : (H : Type) → List (DataW H) → Bool := fun _ ds => decide (uptoBulkAll ds ≤ 1048576)
def OpenSpec.upto (s : _root_.Go.ChangeSpec) : _root_.Go.OpenSpec := { _root_.Go.OpenSpec.ofChange s with cond := some uptoSmall }

/-- 'laws.FnAuctions', WHERE WHAT IT READS IS OF BULK AT MOST 1048576: true; the input reads as it did. -/
def fnAuctionsUptoRow : OpenClaim := { program := "ytakladjlnkojjaa", sum := "bc7eba4f19537f2ceace59b2acb89babba97670bf44f9411474db88374390891", func := "loop.example/g03202/laws.FnAuctions", spec := "fnAuctions", unfollowed := true, recurses := true, apart := false, narrowed := true }
def FnAuctionsUptoSaid : Prop := fnAuctionsUptoRow.holds Try.pinned (OpenSpec.upto fnAuctionsSpec)

/-- 'laws.FnHeirs', WHERE WHAT IT READS IS OF BULK AT MOST 1048576: true; the input reads as it did. -/
def fnHeirsUptoRow : OpenClaim := { program := "ytakladjlnkojjaa", sum := "bc7eba4f19537f2ceace59b2acb89babba97670bf44f9411474db88374390891", func := "loop.example/g03202/laws.FnHeirs", spec := "fnHeirs", unfollowed := true, recurses := true, apart := false, narrowed := true }
def FnHeirsUptoSaid : Prop := fnHeirsUptoRow.holds Try.pinned (OpenSpec.upto fnHeirsSpec)

/-- 'laws.FnCakes', WHERE WHAT IT READS IS OF BULK AT MOST 1048576: true; the input reads as it did. -/
def fnCakesUptoRow : OpenClaim := { program := "ytakladjlnkojjaa", sum := "bc7eba4f19537f2ceace59b2acb89babba97670bf44f9411474db88374390891", func := "loop.example/g03202/laws.FnCakes", spec := "fnCakes", unfollowed := true, recurses := true, apart := false, narrowed := true }
def FnCakesUptoSaid : Prop := fnCakesUptoRow.holds Try.pinned (OpenSpec.upto fnCakesSpec)

end Rows
end Go.Proofs.Ytakladjlnkojjaa
