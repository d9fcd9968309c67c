/-
  No cell of these rows narrows 'for every input' (looked for: loops, veiled, ifaces, maps, wideKeys, modest, calm, conditions, laid).
  DERIVED. THE GIVEN ROWS OF THIS SEAT. 12 by the template 'for every input the law returns true; each argument reads behind the call as it read before'; 0 by the template 'total and deterministic' (their statements: YtjfkpgejgfanbaaTotals.lean).
  GIVEN WITH THE SEED: the statements are not yours to turn. If you find one false, say at which input.
  Laid BY PROGRAM, IN A SANDBOX (cutbox-rows.mjs): the forced cells as the released guide's own fill.sh prints them over the translation 1d78cdf8091d3fab… (all of the seat's roots in one cut). By AI agents, Wed Nov 11 2026. No macro, syntax, notation, axiom, sorry.
-/
import Derived.Test.YtjfkpgejgfanbaaChecked
import GoSem.Claim
import GoSem.ClaimJoined
import GoSem.ClaimMapViews
import Derived.JoinedTies
import Derived.KernelRfl
namespace Go.Proofs.Ytjfkpgejgfanbaa
/- THE CELL 'sum', in the pinned program and in every row, IS THE sha256 OF THE DUMP (.gsa) THAT YtjfkpgejgfanbaaProg.lean LOADS. Nothing in Lean hashes anything: it is a label: what it is worth is what the hold of that sum in a sandbox is worth. -/
noncomputable def Try.pinned : Pinned := { name := "ytjfkpgejgfanbaa", sum := "1d78cdf8091d3fabb787b0644821fbcbded51069dd8b7cfd3a29960cf1d32f51", checked := Try.checked }
namespace Rows
def none {H : Type} : Left H := { results := [], args := [] }

/-- 'laws.FnExactIsDivision': WHATEVER THE INPUT: true; the input reads as it did. -/
def fnExactIsDivisionSpec : ChangeSpec := { name := "fnExactIsDivision", fn := fun _ => fun
  | [d1, d2] => { results := [.lit (.bool true)], args := [d1, d2] }
  | _ => none }
def fnExactIsDivisionRow : OpenClaim := { program := "ytjfkpgejgfanbaa", sum := "1d78cdf8091d3fabb787b0644821fbcbded51069dd8b7cfd3a29960cf1d32f51", func := "loop.example/g03202/laws.FnExactIsDivision", spec := "fnExactIsDivision", unfollowed := true, recurses := true, apart := false }
def FnExactIsDivisionSaid : Prop := fnExactIsDivisionRow.holds Try.pinned (OpenSpec.ofChange fnExactIsDivisionSpec)

/-- ITS FALSE NEIGHBOUR: 'it returns false'. Refute it at one input. -/
def fnExactIsDivisionWrong : ChangeSpec := { name := "fnExactIsDivision", fn := fun _ => fun
  | [d1, d2] => { results := [.lit (.bool false)], args := [d1, d2] }
  | _ => none }
def FnExactIsDivisionWrongFalsely : Prop := fnExactIsDivisionRow.holds Try.pinned (OpenSpec.ofChange fnExactIsDivisionWrong)

/-- 'laws.FnExactAwardOk': WHATEVER THE INPUT: true; the input reads as it did. -/
def fnExactAwardOkSpec : ChangeSpec := { name := "fnExactAwardOk", fn := fun _ => fun
  | [d1, d2] => { results := [.lit (.bool true)], args := [d1, d2] }
  | _ => none }
def fnExactAwardOkRow : OpenClaim := { program := "ytjfkpgejgfanbaa", sum := "1d78cdf8091d3fabb787b0644821fbcbded51069dd8b7cfd3a29960cf1d32f51", func := "loop.example/g03202/laws.FnExactAwardOk", spec := "fnExactAwardOk", unfollowed := true, recurses := true, apart := false }
def FnExactAwardOkSaid : Prop := fnExactAwardOkRow.holds Try.pinned (OpenSpec.ofChange fnExactAwardOkSpec)

/-- ITS FALSE NEIGHBOUR: 'it returns false'. Refute it at one input. -/
def fnExactAwardOkWrong : ChangeSpec := { name := "fnExactAwardOk", fn := fun _ => fun
  | [d1, d2] => { results := [.lit (.bool false)], args := [d1, d2] }
  | _ => none }
def FnExactAwardOkWrongFalsely : Prop := fnExactAwardOkRow.holds Try.pinned (OpenSpec.ofChange fnExactAwardOkWrong)

/-- 'laws.FnExactAwardWorth': WHATEVER THE INPUT: true; the input reads as it did. -/
def fnExactAwardWorthSpec : ChangeSpec := { name := "fnExactAwardWorth", fn := fun _ => fun
  | [d1, d2] => { results := [.lit (.bool true)], args := [d1, d2] }
  | _ => none }
def fnExactAwardWorthRow : OpenClaim := { program := "ytjfkpgejgfanbaa", sum := "1d78cdf8091d3fabb787b0644821fbcbded51069dd8b7cfd3a29960cf1d32f51", func := "loop.example/g03202/laws.FnExactAwardWorth", spec := "fnExactAwardWorth", unfollowed := true, recurses := true, apart := false }
def FnExactAwardWorthSaid : Prop := fnExactAwardWorthRow.holds Try.pinned (OpenSpec.ofChange fnExactAwardWorthSpec)

/-- ITS FALSE NEIGHBOUR: 'it returns false'. Refute it at one input. -/
def fnExactAwardWorthWrong : ChangeSpec := { name := "fnExactAwardWorth", fn := fun _ => fun
  | [d1, d2] => { results := [.lit (.bool false)], args := [d1, d2] }
  | _ => none }
def FnExactAwardWorthWrongFalsely : Prop := fnExactAwardWorthRow.holds Try.pinned (OpenSpec.ofChange fnExactAwardWorthWrong)

/-- 'laws.FnExactPieceEnvy': WHATEVER THE INPUT: true; the input reads as it did. -/
def fnExactPieceEnvySpec : ChangeSpec := { name := "fnExactPieceEnvy", fn := fun _ => fun
  | [d1, d2] => { results := [.lit (.bool true)], args := [d1, d2] }
  | _ => none }
def fnExactPieceEnvyRow : OpenClaim := { program := "ytjfkpgejgfanbaa", sum := "1d78cdf8091d3fabb787b0644821fbcbded51069dd8b7cfd3a29960cf1d32f51", func := "loop.example/g03202/laws.FnExactPieceEnvy", spec := "fnExactPieceEnvy", unfollowed := true, recurses := true, apart := false }
def FnExactPieceEnvySaid : Prop := fnExactPieceEnvyRow.holds Try.pinned (OpenSpec.ofChange fnExactPieceEnvySpec)

/-- ITS FALSE NEIGHBOUR: 'it returns false'. Refute it at one input. -/
def fnExactPieceEnvyWrong : ChangeSpec := { name := "fnExactPieceEnvy", fn := fun _ => fun
  | [d1, d2] => { results := [.lit (.bool false)], args := [d1, d2] }
  | _ => none }
def FnExactPieceEnvyWrongFalsely : Prop := fnExactPieceEnvyRow.holds Try.pinned (OpenSpec.ofChange fnExactPieceEnvyWrong)

/-- 'laws.FnExactCutAndChoose': WHATEVER THE INPUT: true; the input reads as it did. -/
def fnExactCutAndChooseSpec : ChangeSpec := { name := "fnExactCutAndChoose", fn := fun _ => fun
  | [d] => { results := [.lit (.bool true)], args := [d] }
  | _ => none }
def fnExactCutAndChooseRow : OpenClaim := { program := "ytjfkpgejgfanbaa", sum := "1d78cdf8091d3fabb787b0644821fbcbded51069dd8b7cfd3a29960cf1d32f51", func := "loop.example/g03202/laws.FnExactCutAndChoose", spec := "fnExactCutAndChoose", unfollowed := true, recurses := true, apart := false }
def FnExactCutAndChooseSaid : Prop := fnExactCutAndChooseRow.holds Try.pinned (OpenSpec.ofChange fnExactCutAndChooseSpec)

/-- ITS FALSE NEIGHBOUR: 'it returns false'. Refute it at one input. -/
def fnExactCutAndChooseWrong : ChangeSpec := { name := "fnExactCutAndChoose", fn := fun _ => fun
  | [d] => { results := [.lit (.bool false)], args := [d] }
  | _ => none }
def FnExactCutAndChooseWrongFalsely : Prop := fnExactCutAndChooseRow.holds Try.pinned (OpenSpec.ofChange fnExactCutAndChooseWrong)

/-- 'laws.FnExactIsMarket': WHATEVER THE INPUT: true; the input reads as it did. -/
def fnExactIsMarketSpec : ChangeSpec := { name := "fnExactIsMarket", fn := fun _ => fun
  | [d1, d2, d3] => { results := [.lit (.bool true)], args := [d1, d2, d3] }
  | _ => none }
def fnExactIsMarketRow : OpenClaim := { program := "ytjfkpgejgfanbaa", sum := "1d78cdf8091d3fabb787b0644821fbcbded51069dd8b7cfd3a29960cf1d32f51", func := "loop.example/g03202/laws.FnExactIsMarket", spec := "fnExactIsMarket", unfollowed := true, recurses := true, apart := false }
def FnExactIsMarketSaid : Prop := fnExactIsMarketRow.holds Try.pinned (OpenSpec.ofChange fnExactIsMarketSpec)

/-- ITS FALSE NEIGHBOUR: 'it returns false'. Refute it at one input. -/
def fnExactIsMarketWrong : ChangeSpec := { name := "fnExactIsMarket", fn := fun _ => fun
  | [d1, d2, d3] => { results := [.lit (.bool false)], args := [d1, d2, d3] }
  | _ => none }
def FnExactIsMarketWrongFalsely : Prop := fnExactIsMarketRow.holds Try.pinned (OpenSpec.ofChange fnExactIsMarketWrong)

/-- 'laws.FnExactAllDivisions': WHATEVER THE INPUT: true; the input reads as it did. -/
def fnExactAllDivisionsSpec : ChangeSpec := { name := "fnExactAllDivisions", fn := fun _ => fun
  | [d] => { results := [.lit (.bool true)], args := [d] }
  | _ => none }
def fnExactAllDivisionsRow : OpenClaim := { program := "ytjfkpgejgfanbaa", sum := "1d78cdf8091d3fabb787b0644821fbcbded51069dd8b7cfd3a29960cf1d32f51", func := "loop.example/g03202/laws.FnExactAllDivisions", spec := "fnExactAllDivisions", unfollowed := true, recurses := true, apart := false }
def FnExactAllDivisionsSaid : Prop := fnExactAllDivisionsRow.holds Try.pinned (OpenSpec.ofChange fnExactAllDivisionsSpec)

/-- ITS FALSE NEIGHBOUR: 'it returns false'. Refute it at one input. -/
def fnExactAllDivisionsWrong : ChangeSpec := { name := "fnExactAllDivisions", fn := fun _ => fun
  | [d] => { results := [.lit (.bool false)], args := [d] }
  | _ => none }
def FnExactAllDivisionsWrongFalsely : Prop := fnExactAllDivisionsRow.holds Try.pinned (OpenSpec.ofChange fnExactAllDivisionsWrong)

/-- 'laws.FnExactSharesOk': WHATEVER THE INPUT: true; the input reads as it did. -/
def fnExactSharesOkSpec : ChangeSpec := { name := "fnExactSharesOk", fn := fun _ => fun
  | [d1, d2] => { results := [.lit (.bool true)], args := [d1, d2] }
  | _ => none }
def fnExactSharesOkRow : OpenClaim := { program := "ytjfkpgejgfanbaa", sum := "1d78cdf8091d3fabb787b0644821fbcbded51069dd8b7cfd3a29960cf1d32f51", func := "loop.example/g03202/laws.FnExactSharesOk", spec := "fnExactSharesOk", unfollowed := true, recurses := true, apart := false }
def FnExactSharesOkSaid : Prop := fnExactSharesOkRow.holds Try.pinned (OpenSpec.ofChange fnExactSharesOkSpec)

/-- ITS FALSE NEIGHBOUR: 'it returns false'. Refute it at one input. -/
def fnExactSharesOkWrong : ChangeSpec := { name := "fnExactSharesOk", fn := fun _ => fun
  | [d1, d2] => { results := [.lit (.bool false)], args := [d1, d2] }
  | _ => none }
def FnExactSharesOkWrongFalsely : Prop := fnExactSharesOkRow.holds Try.pinned (OpenSpec.ofChange fnExactSharesOkWrong)

/-- 'laws.FnExactFirstShares': WHATEVER THE INPUT: true; the input reads as it did. -/
def fnExactFirstSharesSpec : ChangeSpec := { name := "fnExactFirstShares", fn := fun _ => fun
  | [d] => { results := [.lit (.bool true)], args := [d] }
  | _ => none }
def fnExactFirstSharesRow : OpenClaim := { program := "ytjfkpgejgfanbaa", sum := "1d78cdf8091d3fabb787b0644821fbcbded51069dd8b7cfd3a29960cf1d32f51", func := "loop.example/g03202/laws.FnExactFirstShares", spec := "fnExactFirstShares", unfollowed := true, recurses := true, apart := false }
def FnExactFirstSharesSaid : Prop := fnExactFirstSharesRow.holds Try.pinned (OpenSpec.ofChange fnExactFirstSharesSpec)

/-- ITS FALSE NEIGHBOUR: 'it returns false'. Refute it at one input. -/
def fnExactFirstSharesWrong : ChangeSpec := { name := "fnExactFirstShares", fn := fun _ => fun
  | [d] => { results := [.lit (.bool false)], args := [d] }
  | _ => none }
def FnExactFirstSharesWrongFalsely : Prop := fnExactFirstSharesRow.holds Try.pinned (OpenSpec.ofChange fnExactFirstSharesWrong)

/-- 'laws.FnExactMovingKnife': WHATEVER THE INPUT: true; the input reads as it did. -/
def fnExactMovingKnifeSpec : ChangeSpec := { name := "fnExactMovingKnife", fn := fun _ => fun
  | [d] => { results := [.lit (.bool true)], args := [d] }
  | _ => none }
def fnExactMovingKnifeRow : OpenClaim := { program := "ytjfkpgejgfanbaa", sum := "1d78cdf8091d3fabb787b0644821fbcbded51069dd8b7cfd3a29960cf1d32f51", func := "loop.example/g03202/laws.FnExactMovingKnife", spec := "fnExactMovingKnife", unfollowed := true, recurses := true, apart := false }
def FnExactMovingKnifeSaid : Prop := fnExactMovingKnifeRow.holds Try.pinned (OpenSpec.ofChange fnExactMovingKnifeSpec)

/-- ITS FALSE NEIGHBOUR: 'it returns false'. Refute it at one input. -/
def fnExactMovingKnifeWrong : ChangeSpec := { name := "fnExactMovingKnife", fn := fun _ => fun
  | [d] => { results := [.lit (.bool false)], args := [d] }
  | _ => none }
def FnExactMovingKnifeWrongFalsely : Prop := fnExactMovingKnifeRow.holds Try.pinned (OpenSpec.ofChange fnExactMovingKnifeWrong)

/-- 'laws.FnExactHasOuterEnvy': WHATEVER THE INPUT: true; the input reads as it did. -/
def fnExactHasOuterEnvySpec : ChangeSpec := { name := "fnExactHasOuterEnvy", fn := fun _ => fun
  | [d1, d2] => { results := [.lit (.bool true)], args := [d1, d2] }
  | _ => none }
def fnExactHasOuterEnvyRow : OpenClaim := { program := "ytjfkpgejgfanbaa", sum := "1d78cdf8091d3fabb787b0644821fbcbded51069dd8b7cfd3a29960cf1d32f51", func := "loop.example/g03202/laws.FnExactHasOuterEnvy", spec := "fnExactHasOuterEnvy", unfollowed := true, recurses := true, apart := false }
def FnExactHasOuterEnvySaid : Prop := fnExactHasOuterEnvyRow.holds Try.pinned (OpenSpec.ofChange fnExactHasOuterEnvySpec)

/-- ITS FALSE NEIGHBOUR: 'it returns false'. Refute it at one input. -/
def fnExactHasOuterEnvyWrong : ChangeSpec := { name := "fnExactHasOuterEnvy", fn := fun _ => fun
  | [d1, d2] => { results := [.lit (.bool false)], args := [d1, d2] }
  | _ => none }
def FnExactHasOuterEnvyWrongFalsely : Prop := fnExactHasOuterEnvyRow.holds Try.pinned (OpenSpec.ofChange fnExactHasOuterEnvyWrong)

/-- 'laws.FnExactLotteryOk': WHATEVER THE INPUT: true; the input reads as it did. -/
def fnExactLotteryOkSpec : ChangeSpec := { name := "fnExactLotteryOk", fn := fun _ => fun
  | [d] => { results := [.lit (.bool true)], args := [d] }
  | _ => none }
def fnExactLotteryOkRow : OpenClaim := { program := "ytjfkpgejgfanbaa", sum := "1d78cdf8091d3fabb787b0644821fbcbded51069dd8b7cfd3a29960cf1d32f51", func := "loop.example/g03202/laws.FnExactLotteryOk", spec := "fnExactLotteryOk", unfollowed := true, recurses := true, apart := false }
def FnExactLotteryOkSaid : Prop := fnExactLotteryOkRow.holds Try.pinned (OpenSpec.ofChange fnExactLotteryOkSpec)

/-- ITS FALSE NEIGHBOUR: 'it returns false'. Refute it at one input. -/
def fnExactLotteryOkWrong : ChangeSpec := { name := "fnExactLotteryOk", fn := fun _ => fun
  | [d] => { results := [.lit (.bool false)], args := [d] }
  | _ => none }
def FnExactLotteryOkWrongFalsely : Prop := fnExactLotteryOkRow.holds Try.pinned (OpenSpec.ofChange fnExactLotteryOkWrong)

/- THE SECOND FORM. 'bulk': how many values and letters a reading holds, each counted each time it is reached (what is shared counts as often as it is met; a slice's spare places count too). A statement '..UptoSaid' is the law's where the arguments, and the package variables that the reading takes, are together of bulk at most 1048576: NARROWER than '..Said'. Prove '..Said' where nothing that the law and all that it calls make is longer than what came in: it says more and counts as full. Else prove '..UptoSaid'. A law counts once. -/
mutual
def uptoBulk {H : Type} : DataW H → Nat
  | .lit (.string bytes) => bytes.length + 1
  | .lit _ => 1
  | .nil => 1
  | .ptr d => uptoBulk d + 1
  | .slice elems spare => uptoBulkAll elems + uptoBulkAll spare + 1
  | .agg parts => uptoBulkAll parts + 1
  | .iface _ d => uptoBulk d + 1
  | .map entries => uptoBulkEntries entries + 1
  | .held _ => 1
def uptoBulkAll {H : Type} : List (DataW H) → Nat
  | [] => 0
  | d :: r => uptoBulk d + uptoBulkAll r
def uptoBulkEntries {H : Type} : List (Lit × DataW H) → Nat
  | [] => 0
  | x :: r => uptoBulkEntry x + uptoBulkEntries r
def uptoBulkEntry {H : Type} : Lit × DataW H → Nat
  | (.string bytes, d) => bytes.length + uptoBulk d + 1
  | (_, d) => uptoBulk d + 1
 end
def uptoSmall : (H : Type) → List (DataW H) → Bool := fun _ ds => decide (uptoBulkAll ds ≤ 1048576)
def OpenSpec.upto (s : _root_.Go.ChangeSpec) : _root_.Go.OpenSpec := { _root_.Go.OpenSpec.ofChange s with cond := some uptoSmall }

/-- 'laws.FnExactIsDivision', WHERE WHAT IT READS IS OF BULK AT MOST 1048576: true; the input reads as it did. -/
def fnExactIsDivisionUptoRow : OpenClaim := { program := "ytjfkpgejgfanbaa", sum := "1d78cdf8091d3fabb787b0644821fbcbded51069dd8b7cfd3a29960cf1d32f51", func := "loop.example/g03202/laws.FnExactIsDivision", spec := "fnExactIsDivision", unfollowed := true, recurses := true, apart := false, narrowed := true }
def FnExactIsDivisionUptoSaid : Prop := fnExactIsDivisionUptoRow.holds Try.pinned (OpenSpec.upto fnExactIsDivisionSpec)

/-- 'laws.FnExactAwardOk', WHERE WHAT IT READS IS OF BULK AT MOST 1048576: true; the input reads as it did. -/
def fnExactAwardOkUptoRow : OpenClaim := { program := "ytjfkpgejgfanbaa", sum := "1d78cdf8091d3fabb787b0644821fbcbded51069dd8b7cfd3a29960cf1d32f51", func := "loop.example/g03202/laws.FnExactAwardOk", spec := "fnExactAwardOk", unfollowed := true, recurses := true, apart := false, narrowed := true }
def FnExactAwardOkUptoSaid : Prop := fnExactAwardOkUptoRow.holds Try.pinned (OpenSpec.upto fnExactAwardOkSpec)

/-- 'laws.FnExactAwardWorth', WHERE WHAT IT READS IS OF BULK AT MOST 1048576: true; the input reads as it did. -/
def fnExactAwardWorthUptoRow : OpenClaim := { program := "ytjfkpgejgfanbaa", sum := "1d78cdf8091d3fabb787b0644821fbcbded51069dd8b7cfd3a29960cf1d32f51", func := "loop.example/g03202/laws.FnExactAwardWorth", spec := "fnExactAwardWorth", unfollowed := true, recurses := true, apart := false, narrowed := true }
def FnExactAwardWorthUptoSaid : Prop := fnExactAwardWorthUptoRow.holds Try.pinned (OpenSpec.upto fnExactAwardWorthSpec)

/-- 'laws.FnExactPieceEnvy', WHERE WHAT IT READS IS OF BULK AT MOST 1048576: true; the input reads as it did. -/
def fnExactPieceEnvyUptoRow : OpenClaim := { program := "ytjfkpgejgfanbaa", sum := "1d78cdf8091d3fabb787b0644821fbcbded51069dd8b7cfd3a29960cf1d32f51", func := "loop.example/g03202/laws.FnExactPieceEnvy", spec := "fnExactPieceEnvy", unfollowed := true, recurses := true, apart := false, narrowed := true }
def FnExactPieceEnvyUptoSaid : Prop := fnExactPieceEnvyUptoRow.holds Try.pinned (OpenSpec.upto fnExactPieceEnvySpec)

/-- 'laws.FnExactCutAndChoose', WHERE WHAT IT READS IS OF BULK AT MOST 1048576: true; the input reads as it did. -/
def fnExactCutAndChooseUptoRow : OpenClaim := { program := "ytjfkpgejgfanbaa", sum := "1d78cdf8091d3fabb787b0644821fbcbded51069dd8b7cfd3a29960cf1d32f51", func := "loop.example/g03202/laws.FnExactCutAndChoose", spec := "fnExactCutAndChoose", unfollowed := true, recurses := true, apart := false, narrowed := true }
def FnExactCutAndChooseUptoSaid : Prop := fnExactCutAndChooseUptoRow.holds Try.pinned (OpenSpec.upto fnExactCutAndChooseSpec)

/-- 'laws.FnExactIsMarket', WHERE WHAT IT READS IS OF BULK AT MOST 1048576: true; the input reads as it did. -/
def fnExactIsMarketUptoRow : OpenClaim := { program := "ytjfkpgejgfanbaa", sum := "1d78cdf8091d3fabb787b0644821fbcbded51069dd8b7cfd3a29960cf1d32f51", func := "loop.example/g03202/laws.FnExactIsMarket", spec := "fnExactIsMarket", unfollowed := true, recurses := true, apart := false, narrowed := true }
def FnExactIsMarketUptoSaid : Prop := fnExactIsMarketUptoRow.holds Try.pinned (OpenSpec.upto fnExactIsMarketSpec)

/-- 'laws.FnExactAllDivisions', WHERE WHAT IT READS IS OF BULK AT MOST 1048576: true; the input reads as it did. -/
def fnExactAllDivisionsUptoRow : OpenClaim := { program := "ytjfkpgejgfanbaa", sum := "1d78cdf8091d3fabb787b0644821fbcbded51069dd8b7cfd3a29960cf1d32f51", func := "loop.example/g03202/laws.FnExactAllDivisions", spec := "fnExactAllDivisions", unfollowed := true, recurses := true, apart := false, narrowed := true }
def FnExactAllDivisionsUptoSaid : Prop := fnExactAllDivisionsUptoRow.holds Try.pinned (OpenSpec.upto fnExactAllDivisionsSpec)

/-- 'laws.FnExactSharesOk', WHERE WHAT IT READS IS OF BULK AT MOST 1048576: true; the input reads as it did. -/
def fnExactSharesOkUptoRow : OpenClaim := { program := "ytjfkpgejgfanbaa", sum := "1d78cdf8091d3fabb787b0644821fbcbded51069dd8b7cfd3a29960cf1d32f51", func := "loop.example/g03202/laws.FnExactSharesOk", spec := "fnExactSharesOk", unfollowed := true, recurses := true, apart := false, narrowed := true }
def FnExactSharesOkUptoSaid : Prop := fnExactSharesOkUptoRow.holds Try.pinned (OpenSpec.upto fnExactSharesOkSpec)

/-- 'laws.FnExactFirstShares', WHERE WHAT IT READS IS OF BULK AT MOST 1048576: true; the input reads as it did. -/
def fnExactFirstSharesUptoRow : OpenClaim := { program := "ytjfkpgejgfanbaa", sum := "1d78cdf8091d3fabb787b0644821fbcbded51069dd8b7cfd3a29960cf1d32f51", func := "loop.example/g03202/laws.FnExactFirstShares", spec := "fnExactFirstShares", unfollowed := true, recurses := true, apart := false, narrowed := true }
def FnExactFirstSharesUptoSaid : Prop := fnExactFirstSharesUptoRow.holds Try.pinned (OpenSpec.upto fnExactFirstSharesSpec)

/-- 'laws.FnExactMovingKnife', WHERE WHAT IT READS IS OF BULK AT MOST 1048576: true; the input reads as it did. -/
def fnExactMovingKnifeUptoRow : OpenClaim := { program := "ytjfkpgejgfanbaa", sum := "1d78cdf8091d3fabb787b0644821fbcbded51069dd8b7cfd3a29960cf1d32f51", func := "loop.example/g03202/laws.FnExactMovingKnife", spec := "fnExactMovingKnife", unfollowed := true, recurses := true, apart := false, narrowed := true }
def FnExactMovingKnifeUptoSaid : Prop := fnExactMovingKnifeUptoRow.holds Try.pinned (OpenSpec.upto fnExactMovingKnifeSpec)

/-- 'laws.FnExactHasOuterEnvy', WHERE WHAT IT READS IS OF BULK AT MOST 1048576: true; the input reads as it did. -/
def fnExactHasOuterEnvyUptoRow : OpenClaim := { program := "ytjfkpgejgfanbaa", sum := "1d78cdf8091d3fabb787b0644821fbcbded51069dd8b7cfd3a29960cf1d32f51", func := "loop.example/g03202/laws.FnExactHasOuterEnvy", spec := "fnExactHasOuterEnvy", unfollowed := true, recurses := true, apart := false, narrowed := true }
def FnExactHasOuterEnvyUptoSaid : Prop := fnExactHasOuterEnvyUptoRow.holds Try.pinned (OpenSpec.upto fnExactHasOuterEnvySpec)

/-- 'laws.FnExactLotteryOk', WHERE WHAT IT READS IS OF BULK AT MOST 1048576: true; the input reads as it did. -/
def fnExactLotteryOkUptoRow : OpenClaim := { program := "ytjfkpgejgfanbaa", sum := "1d78cdf8091d3fabb787b0644821fbcbded51069dd8b7cfd3a29960cf1d32f51", func := "loop.example/g03202/laws.FnExactLotteryOk", spec := "fnExactLotteryOk", unfollowed := true, recurses := true, apart := false, narrowed := true }
def FnExactLotteryOkUptoSaid : Prop := fnExactLotteryOkUptoRow.holds Try.pinned (OpenSpec.upto fnExactLotteryOkSpec)

end Rows
end Go.Proofs.Ytjfkpgejgfanbaa
