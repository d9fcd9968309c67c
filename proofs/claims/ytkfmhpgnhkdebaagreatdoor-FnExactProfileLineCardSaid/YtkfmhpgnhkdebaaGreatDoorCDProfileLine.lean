/-
  PROVED: the tied card of FnExactProfileLine: it returns true for all arguments, and its arguments read as they did. No condition.
-/
import Derived.Test.YtkfmhpgnhkdebaaGreatDoorRows
import Derived.Test.YtkfmhpgnhkdebaaGreatDoorCards
import Derived.Test.YtkfmhpgnhkdebaaGreatDoorTie
import Derived.Lay
import Derived.Handy
import Derived.Test.YtkfmhpgnhkdebaaGreatDoorCG1
import Derived.Test.YtkfmhpgnhkdebaaGreatDoorCK4
import Derived.Test.YtkfmhpgnhkdebaaGreatDoorCLProfileLine
namespace Go.Proofs.YtkfmhpgnhkdebaaGreatDoor.Ax
open Go Go.RowKit Go.ChangeShapes Go.WideShapes Go.ChangeAt
theorem lawProfileLine : ∀ l, DatL Tryz.prog Tryz.f3.params.toList l → CallOk Tryz.prog 3 l (.v (.bool true)) := by
  intro l h
  rw [Tryz.params3] at h
  obtain ⟨b0, _, rfl, hb0, rfl⟩ := h
  obtain ⟨s, nl, vs, rfl⟩ := datPrf hb0
  exact law_ProfileLine s nl vs
theorem tabOf (w : World) (h : laidMetH Tryz.prog Rows.fnExactProfileLineRow.laid w) : Gl (fun b => b < w.heap.size) w := by
  rw [MakeChecks.laidMetH_plain _ _ _ (by kernel_rfl)] at h
  have h3 : laidMet Tryz.prog [("internal/strconv.uint64pow10", Lib.tabData .u64 Lib.pow10Tab)] w := laid_tail (laid_tail h)
  cases hg : Tryz.prog.globalNamed "internal/strconv.uint64pow10" with
  | none => exact gl_none hg
  | some g =>
    have e : g = (Tryz.prog.globalNamed "internal/strconv.uint64pow10").getD 0 := by rw [hg]; rfl
    subst e
    exact gl_of_tab (Lib.tabIs_of_head (t := 250) (e := 208) (n := 20) hg (by kernel_rfl) (by kernel_rfl) (by kernel_rfl) (by kernel_rfl) (by kernel_rfl) h3)
set_option maxRecDepth 100000 in
theorem liftedProfileLine (os : Os) (started : os.Started) (H : Type) (enc : TypeId × Value → H) :
    ReturnsInHanded {} Tryz.checked os 3 .any (fun w args => (Rows.fnExactProfileLineSpec.pre enc Tryz.prog Tryz.f3 [] false w args ∧ laidMetH Tryz.prog Rows.fnExactProfileLineRow.laid w) ∧ sizedMet enc Tryz.prog Tryz.f3 (OpenSpec.ofChange Rows.fnExactProfileLineSpec) false w args)
      (Rows.fnExactProfileLineSpec.post enc Tryz.prog Tryz.f3 false true false false) :=
  framedL (C := Tryz.checked) (tb := 4) (started := started) ownP (by kernel_rfl) Tryz.func3
    (ChangeSpec.witness_shaped (enc := enc) (C := Tryz.checked) (os := os) (X := fun w _ => laidMetH Tryz.prog Rows.fnExactProfileLineRow.laid w) false (World.laidAll Tryz.prog os Rows.fnExactProfileLineRow.laid) #[.agg #[.int .i64 0, .slice none 0 0]] 8 (World.laidAll_os _ _ _)
      (World.shaped_of_ZipB (by kernel_rfl) (by kernel_rfl)) (by kernel_rfl) (by kernel_rfl) (by kernel_rfl)
      (by rw [MakeChecks.laidMetH_plain _ _ _ (by kernel_rfl)]; exact laidMet_laidAll _ (by kernel_rfl) (by kernel_rfl)))
    laidOutP (by kernel_rfl) (by kernel_rfl) rfl Tryz.underlying4 rfl
    (fun ds h => by match ds, h with | [_], _ => rfl) tabOf lawProfileLine
theorem overProfileLine : Rows.FnExactProfileLineSaid :=
  OpenClaim.holds_of_wide 3 Tryz.f3 rfl rfl rfl rfl rfl rfl rfl ⟨rfl, rfl, rfl, rfl, rfl⟩ rfl rfl rfl rfl rfl (by kernel_rfl) Tryz.func3 (by kernel_rfl)
    (of_decide_eq_true (by kernel_rfl)) (by unfold Func.isWrapper; first | (rw [if_pos (by decide +kernel)]; kernel_rfl) | (rw [if_neg (by decide +kernel)]; exact ⟨rfl, rfl⟩))
    (fun os started H enc _ => liftedProfileLine os started H enc)
theorem provedProfileLine : Rows.FnExactProfileLineCardSaid :=
  Claim7.holds_tied_plain_at .later [] [.data, .data, .data] true _ _ overProfileLine (fun _ h => by cases h) (by kernel_rfl) (fun _ h => by cases h) fnExactProfileLine_row_tie rfl ⟨rfl, rfl⟩ (by kernel_rfl) rfl
    (fun f fn hf hfn => by
      obtain rfl : f = 3 := Option.some.inj ((show Tryz.prog.funcNamed "loop.example/g03202/laws.FnExactProfileLine" = some 3 by kernel_rfl).symm.trans hf) |>.symm
      obtain rfl : fn = Tryz.f3 := (Option.some.inj (Tryz.func3.symm.trans hfn)).symm
      exact ⟨by kernel_rfl, fun j t ht => by
        rw [Tryz.params3] at ht
        have hm : t ∈ [24] := by simpa using Array.mem_of_getElem? ht
        have hall : ([24].all fun u => !Tryz.prog.wantsStandIn u) = true := by kernel_rfl
        exact (show Tryz.prog.wantsStandIn t = false by simpa using List.all_eq_true.1 hall t hm)⟩)
    (by kernel_rfl)
#print axioms provedProfileLine
end Go.Proofs.YtkfmhpgnhkdebaaGreatDoor.Ax
