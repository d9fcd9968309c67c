/-
  PROVED: FnExactRuleLine returns true for all arguments, and its arguments read as they did. No condition.
-/
import Derived.Test.YtigepnpiofcooaaGreatRows
import Derived.Test.YtigepnpiofcooaaGreatCG1
import Derived.Test.YtigepnpiofcooaaGreatCLRuleLine
namespace Go.Proofs.YtigepnpiofcooaaGreat.Ax
open Go Go.RowKit Go.ChangeShapes Go.WideShapes Go.ChangeAt
theorem lawRuleLine : ∀ l, DatL Tryz.prog Tryz.f3.params.toList l → CallOk Tryz.prog 3 l (.v (.bool true)) := by
  intro l h
  rw [Tryz.params3] at h
  obtain ⟨a0, _, rfl, ha0, b0, _, rfl, hb0, rfl⟩ := h
  obtain ⟨k, rfl, _⟩ := ha0.int Tryz.underlying3
  obtain ⟨s, nl, vs, rfl⟩ := datPrf hb0
  exact law_RuleLine k s nl vs
set_option maxRecDepth 100000 in
theorem liftedRuleLine (os : Os) (started : os.Started) (H : Type) (enc : TypeId × Value → H) :
    ReturnsInHanded {} Tryz.checked os 3 .any (Rows.fnExactRuleLineSpec.pre6 enc Tryz.prog Tryz.f3 Rows.fnExactRuleLineRow.domain false) (Rows.fnExactRuleLineSpec.post enc Tryz.prog Tryz.f3 false true false false) :=
  framed (C := Tryz.checked) (tb := 4) (started := started) ownP (by kernel_rfl) Tryz.func3
    (ChangeSpec.witness6 (enc := enc) (C := Tryz.checked) false ⟨#[], #[.int .i64 0, .agg #[.int .i64 0, .slice none 0 0]], []⟩ 8 (by kernel_rfl) (by kernel_rfl) (by kernel_rfl) (by kernel_rfl))
    laidOutP (by kernel_rfl) (by kernel_rfl) rfl Tryz.underlying4 rfl
    (fun ds h => by match ds, h with | [_, _], _ => rfl) (by kernel_rfl) lawRuleLine
theorem overRuleLine : Rows.fnExactRuleLineRow.holds Tryz.pinned (OpenSpec.ofChange Rows.fnExactRuleLineSpec) :=
  OpenClaim.holds_of_wide 3 Tryz.f3 rfl rfl rfl rfl rfl rfl rfl ⟨rfl, rfl, rfl, rfl, rfl⟩ rfl rfl rfl rfl rfl (by kernel_rfl) Tryz.func3 (by kernel_rfl)
    (of_decide_eq_true (by kernel_rfl)) (by unfold Func.isWrapper; first | (rw [if_pos (by decide +kernel)]; kernel_rfl) | (rw [if_neg (by decide +kernel)]; exact ⟨rfl, rfl⟩))
    (fun os started H enc _ => liftedRuleLine os started H enc)
theorem provedRuleLine : Rows.FnExactRuleLineSaid := overRuleLine
#print axioms provedRuleLine
end Go.Proofs.YtigepnpiofcooaaGreat.Ax
