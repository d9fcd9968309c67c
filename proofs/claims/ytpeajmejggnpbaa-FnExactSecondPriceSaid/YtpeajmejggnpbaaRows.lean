/-
  No cell of these rows narrows 'for every input' (looked for: loops, veiled, ifaces, maps, wideKeys, modest, calm, conditions, laid).
  DERIVED. THE GIVEN ROWS OF THIS SEAT. 6 by the template 'for every input the law returns true; each argument reads behind the call as it read before'; 0 by the template 'total and deterministic' (their statements: YtpeajmejggnpbaaTotals.lean).
  GIVEN WITH THE SEED: the statements are not yours to turn. If you find one false, say at which input.
  Laid BY PROGRAM, IN A SANDBOX (cutbox-rows.mjs): the forced cells as the released guide's own fill.sh prints them over the translation 9e15160b59272069… (all of the seat's roots in one cut). By AI agents, Wed Nov 11 2026. No macro, syntax, notation, axiom, sorry.
-/
import Derived.Test.YtpeajmejggnpbaaChecked
import GoSem.Claim
import GoSem.ClaimJoined
import GoSem.ClaimMapViews
import Derived.JoinedTies
import Derived.KernelRfl
namespace Go.Proofs.Ytpeajmejggnpbaa
/- THE CELL 'sum', in the pinned program and in every row, IS THE sha256 OF THE DUMP (.gsa) THAT YtpeajmejggnpbaaProg.lean LOADS. Nothing in Lean hashes anything: it is a label: what it is worth is what the hold of that sum in a sandbox is worth. -/
noncomputable def Try.pinned : Pinned := { name := "ytpeajmejggnpbaa", sum := "9e15160b5927206937f5a5d5967a079916daed3d4a68747cc1c36b46e42d72a8", checked := Try.checked }
namespace Rows
def none {H : Type} : Left H := { results := [], args := [] }

/-- 'laws.FnExactCountSplit': WHATEVER THE INPUT: true; the input reads as it did. -/
def fnExactCountSplitSpec : ChangeSpec := { name := "fnExactCountSplit", fn := fun _ => fun
  | [d] => { results := [.lit (.bool true)], args := [d] }
  | _ => none }
def fnExactCountSplitRow : OpenClaim := { program := "ytpeajmejggnpbaa", sum := "9e15160b5927206937f5a5d5967a079916daed3d4a68747cc1c36b46e42d72a8", func := "loop.example/g03202/laws.FnExactCountSplit", spec := "fnExactCountSplit", apart := false }
def FnExactCountSplitSaid : Prop := fnExactCountSplitRow.holds Try.pinned (OpenSpec.ofChange fnExactCountSplitSpec)

/-- ITS FALSE NEIGHBOUR: 'it returns false'. Refute it at one input. -/
def fnExactCountSplitWrong : ChangeSpec := { name := "fnExactCountSplit", fn := fun _ => fun
  | [d] => { results := [.lit (.bool false)], args := [d] }
  | _ => none }
def FnExactCountSplitWrongFalsely : Prop := fnExactCountSplitRow.holds Try.pinned (OpenSpec.ofChange fnExactCountSplitWrong)

/-- 'laws.FnExactSecondPrice': WHATEVER THE INPUT: true; the input reads as it did. -/
def fnExactSecondPriceSpec : ChangeSpec := { name := "fnExactSecondPrice", fn := fun _ => fun
  | [d] => { results := [.lit (.bool true)], args := [d] }
  | _ => none }
def fnExactSecondPriceRow : OpenClaim := { program := "ytpeajmejggnpbaa", sum := "9e15160b5927206937f5a5d5967a079916daed3d4a68747cc1c36b46e42d72a8", func := "loop.example/g03202/laws.FnExactSecondPrice", spec := "fnExactSecondPrice", unfollowed := true, recurses := true, apart := false }
def FnExactSecondPriceSaid : Prop := fnExactSecondPriceRow.holds Try.pinned (OpenSpec.ofChange fnExactSecondPriceSpec)

/-- ITS FALSE NEIGHBOUR: 'it returns false'. Refute it at one input. -/
def fnExactSecondPriceWrong : ChangeSpec := { name := "fnExactSecondPrice", fn := fun _ => fun
  | [d] => { results := [.lit (.bool false)], args := [d] }
  | _ => none }
def FnExactSecondPriceWrongFalsely : Prop := fnExactSecondPriceRow.holds Try.pinned (OpenSpec.ofChange fnExactSecondPriceWrong)

/-- 'laws.FnExactBidsOk': WHATEVER THE INPUT: true; the input reads as it did. -/
def fnExactBidsOkSpec : ChangeSpec := { name := "fnExactBidsOk", fn := fun _ => fun
  | [d] => { results := [.lit (.bool true)], args := [d] }
  | _ => none }
def fnExactBidsOkRow : OpenClaim := { program := "ytpeajmejggnpbaa", sum := "9e15160b5927206937f5a5d5967a079916daed3d4a68747cc1c36b46e42d72a8", func := "loop.example/g03202/laws.FnExactBidsOk", spec := "fnExactBidsOk", unfollowed := true, recurses := true, apart := false }
def FnExactBidsOkSaid : Prop := fnExactBidsOkRow.holds Try.pinned (OpenSpec.ofChange fnExactBidsOkSpec)

/-- ITS FALSE NEIGHBOUR: 'it returns false'. Refute it at one input. -/
def fnExactBidsOkWrong : ChangeSpec := { name := "fnExactBidsOk", fn := fun _ => fun
  | [d] => { results := [.lit (.bool false)], args := [d] }
  | _ => none }
def FnExactBidsOkWrongFalsely : Prop := fnExactBidsOkRow.holds Try.pinned (OpenSpec.ofChange fnExactBidsOkWrong)

/-- 'laws.FnExactCakeOk': WHATEVER THE INPUT: true; the input reads as it did. -/
def fnExactCakeOkSpec : ChangeSpec := { name := "fnExactCakeOk", fn := fun _ => fun
  | [d] => { results := [.lit (.bool true)], args := [d] }
  | _ => none }
def fnExactCakeOkRow : OpenClaim := { program := "ytpeajmejggnpbaa", sum := "9e15160b5927206937f5a5d5967a079916daed3d4a68747cc1c36b46e42d72a8", func := "loop.example/g03202/laws.FnExactCakeOk", spec := "fnExactCakeOk", unfollowed := true, recurses := true, apart := false }
def FnExactCakeOkSaid : Prop := fnExactCakeOkRow.holds Try.pinned (OpenSpec.ofChange fnExactCakeOkSpec)

/-- ITS FALSE NEIGHBOUR: 'it returns false'. Refute it at one input. -/
def fnExactCakeOkWrong : ChangeSpec := { name := "fnExactCakeOk", fn := fun _ => fun
  | [d] => { results := [.lit (.bool false)], args := [d] }
  | _ => none }
def FnExactCakeOkWrongFalsely : Prop := fnExactCakeOkRow.holds Try.pinned (OpenSpec.ofChange fnExactCakeOkWrong)

/-- 'laws.FnExactPointsOk': WHATEVER THE INPUT: true; the input reads as it did. -/
def fnExactPointsOkSpec : ChangeSpec := { name := "fnExactPointsOk", fn := fun _ => fun
  | [d] => { results := [.lit (.bool true)], args := [d] }
  | _ => none }
def fnExactPointsOkRow : OpenClaim := { program := "ytpeajmejggnpbaa", sum := "9e15160b5927206937f5a5d5967a079916daed3d4a68747cc1c36b46e42d72a8", func := "loop.example/g03202/laws.FnExactPointsOk", spec := "fnExactPointsOk", unfollowed := true, recurses := true, apart := false }
def FnExactPointsOkSaid : Prop := fnExactPointsOkRow.holds Try.pinned (OpenSpec.ofChange fnExactPointsOkSpec)

/-- ITS FALSE NEIGHBOUR: 'it returns false'. Refute it at one input. -/
def fnExactPointsOkWrong : ChangeSpec := { name := "fnExactPointsOk", fn := fun _ => fun
  | [d] => { results := [.lit (.bool false)], args := [d] }
  | _ => none }
def FnExactPointsOkWrongFalsely : Prop := fnExactPointsOkRow.holds Try.pinned (OpenSpec.ofChange fnExactPointsOkWrong)

/-- 'laws.FnExactStripWorth': WHATEVER THE INPUT: true; the input reads as it did. -/
def fnExactStripWorthSpec : ChangeSpec := { name := "fnExactStripWorth", fn := fun _ => fun
  | [d1, d2, d3, d4] => { results := [.lit (.bool true)], args := [d1, d2, d3, d4] }
  | _ => none }
def fnExactStripWorthRow : OpenClaim := { program := "ytpeajmejggnpbaa", sum := "9e15160b5927206937f5a5d5967a079916daed3d4a68747cc1c36b46e42d72a8", func := "loop.example/g03202/laws.FnExactStripWorth", spec := "fnExactStripWorth", unfollowed := true, recurses := true, apart := false }
def FnExactStripWorthSaid : Prop := fnExactStripWorthRow.holds Try.pinned (OpenSpec.ofChange fnExactStripWorthSpec)

/-- ITS FALSE NEIGHBOUR: 'it returns false'. Refute it at one input. -/
def fnExactStripWorthWrong : ChangeSpec := { name := "fnExactStripWorth", fn := fun _ => fun
  | [d1, d2, d3, d4] => { results := [.lit (.bool false)], args := [d1, d2, d3, d4] }
  | _ => none }
def FnExactStripWorthWrongFalsely : Prop := fnExactStripWorthRow.holds Try.pinned (OpenSpec.ofChange fnExactStripWorthWrong)

/- THE SECOND FORM. 'bulk': how many values and letters a reading holds, each counted each time it is reached (what is shared counts as often as it is met; a slice's spare places count too). A statement '..UptoSaid' is the law's where the arguments, and the package variables that the reading takes, are together of bulk at most 1048576: NARROWER than '..Said'. Prove '..Said' where nothing that the law and all that it calls make is longer than what came in: it says more and counts as full. Else prove '..UptoSaid'. A law counts once. -/
mutual
def uptoBulk {H : Type} : DataW H → Nat
  | .lit (.string bytes) => bytes.length + 1
  | .lit _ => 1
  | .nil => 1
  | .ptr d => uptoBulk d + 1
  | .slice elems spare => uptoBulkAll elems + uptoBulkAll spare + 1
  | .agg parts => uptoBulkAll parts + 1
  | .iface _ d => uptoBulk d + 1
  | .map entries => uptoBulkEntries entries + 1
  | .held _ => 1
def uptoBulkAll {H : Type} : List (DataW H) → Nat
  | [] => 0
  | d :: r => uptoBulk d + uptoBulkAll r
def uptoBulkEntries {H : Type} : List (Lit × DataW H) → Nat
  | [] => 0
  | x :: r => uptoBulkEntry x + uptoBulkEntries r
def uptoBulkEntry {H : Type} : Lit × DataW H → Nat
  | (.string bytes, d) => bytes.length + uptoBulk d + 1
  | (_, d) => uptoBulk d + 1
 end
def uptoSmall : (H : Type) → List (DataW H) → Bool := fun _ ds => decide (uptoBulkAll ds ≤ 1048576)
def OpenSpec.upto (s : _root_.Go.ChangeSpec) : _root_.Go.OpenSpec := { _root_.Go.OpenSpec.ofChange s with cond := some uptoSmall }

/-- 'laws.FnExactCountSplit', WHERE WHAT IT READS IS OF BULK AT MOST 1048576: true; the input reads as it did. -/
def fnExactCountSplitUptoRow : OpenClaim := { program := "ytpeajmejggnpbaa", sum := "9e15160b5927206937f5a5d5967a079916daed3d4a68747cc1c36b46e42d72a8", func := "loop.example/g03202/laws.FnExactCountSplit", spec := "fnExactCountSplit", apart := false, narrowed := true }
def FnExactCountSplitUptoSaid : Prop := fnExactCountSplitUptoRow.holds Try.pinned (OpenSpec.upto fnExactCountSplitSpec)

/-- 'laws.FnExactSecondPrice', WHERE WHAT IT READS IS OF BULK AT MOST 1048576: true; the input reads as it did. -/
def fnExactSecondPriceUptoRow : OpenClaim := { program := "ytpeajmejggnpbaa", sum := "9e15160b5927206937f5a5d5967a079916daed3d4a68747cc1c36b46e42d72a8", func := "loop.example/g03202/laws.FnExactSecondPrice", spec := "fnExactSecondPrice", unfollowed := true, recurses := true, apart := false, narrowed := true }
def FnExactSecondPriceUptoSaid : Prop := fnExactSecondPriceUptoRow.holds Try.pinned (OpenSpec.upto fnExactSecondPriceSpec)

/-- 'laws.FnExactBidsOk', WHERE WHAT IT READS IS OF BULK AT MOST 1048576: true; the input reads as it did. -/
def fnExactBidsOkUptoRow : OpenClaim := { program := "ytpeajmejggnpbaa", sum := "9e15160b5927206937f5a5d5967a079916daed3d4a68747cc1c36b46e42d72a8", func := "loop.example/g03202/laws.FnExactBidsOk", spec := "fnExactBidsOk", unfollowed := true, recurses := true, apart := false, narrowed := true }
def FnExactBidsOkUptoSaid : Prop := fnExactBidsOkUptoRow.holds Try.pinned (OpenSpec.upto fnExactBidsOkSpec)

/-- 'laws.FnExactCakeOk', WHERE WHAT IT READS IS OF BULK AT MOST 1048576: true; the input reads as it did. -/
def fnExactCakeOkUptoRow : OpenClaim := { program := "ytpeajmejggnpbaa", sum := "9e15160b5927206937f5a5d5967a079916daed3d4a68747cc1c36b46e42d72a8", func := "loop.example/g03202/laws.FnExactCakeOk", spec := "fnExactCakeOk", unfollowed := true, recurses := true, apart := false, narrowed := true }
def FnExactCakeOkUptoSaid : Prop := fnExactCakeOkUptoRow.holds Try.pinned (OpenSpec.upto fnExactCakeOkSpec)

/-- 'laws.FnExactPointsOk', WHERE WHAT IT READS IS OF BULK AT MOST 1048576: true; the input reads as it did. -/
def fnExactPointsOkUptoRow : OpenClaim := { program := "ytpeajmejggnpbaa", sum := "9e15160b5927206937f5a5d5967a079916daed3d4a68747cc1c36b46e42d72a8", func := "loop.example/g03202/laws.FnExactPointsOk", spec := "fnExactPointsOk", unfollowed := true, recurses := true, apart := false, narrowed := true }
def FnExactPointsOkUptoSaid : Prop := fnExactPointsOkUptoRow.holds Try.pinned (OpenSpec.upto fnExactPointsOkSpec)

/-- 'laws.FnExactStripWorth', WHERE WHAT IT READS IS OF BULK AT MOST 1048576: true; the input reads as it did. -/
def fnExactStripWorthUptoRow : OpenClaim := { program := "ytpeajmejggnpbaa", sum := "9e15160b5927206937f5a5d5967a079916daed3d4a68747cc1c36b46e42d72a8", func := "loop.example/g03202/laws.FnExactStripWorth", spec := "fnExactStripWorth", unfollowed := true, recurses := true, apart := false, narrowed := true }
def FnExactStripWorthUptoSaid : Prop := fnExactStripWorthUptoRow.holds Try.pinned (OpenSpec.upto fnExactStripWorthSpec)

end Rows
end Go.Proofs.Ytpeajmejggnpbaa
