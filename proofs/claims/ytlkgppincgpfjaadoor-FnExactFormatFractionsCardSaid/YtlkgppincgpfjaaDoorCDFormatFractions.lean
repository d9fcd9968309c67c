/-
  PROVED: the tied card of FnExactFormatFractions: it returns true for all arguments, and its arguments read as they did. No condition.
-/
import Derived.Test.YtlkgppincgpfjaaDoorRows
import Derived.Test.YtlkgppincgpfjaaDoorCards
import Derived.Test.YtlkgppincgpfjaaDoorTie
import Derived.Lay
import Derived.Handy
import Derived.Test.YtlkgppincgpfjaaDoorCB2
import Derived.Test.YtlkgppincgpfjaaDoorCK4
import Derived.Test.YtlkgppincgpfjaaDoorCLFormatFractions
namespace Go.Proofs.YtlkgppincgpfjaaDoor.Ax
open Go Go.RowKit Go.ChangeShapes Go.WideShapes Go.ChangeAt

theorem lawFormatFractions : ∀ l, DatL Tryd.prog Tryd.f6.params.toList l → CallOk Tryd.prog 6 l (.v (.bool true)) := by
  intro l h
  rw [Tryd.params6] at h
  obtain ⟨b0, _, rfl, hb0, rfl⟩ := h
  obtain ⟨n0, x0, rfl, _⟩ := datLFracs hb0
  exact law_FormatFractions n0 x0

theorem tabOf (w : World) (h : laidMetH Tryd.prog Rows.fnExactFormatFractionsRow.laid w) : Gl (fun b => b < w.heap.size) w := by
  rw [MakeChecks.laidMetH_plain _ _ _ (by kernel_rfl)] at h
  have h3 : laidMet Tryd.prog [("internal/strconv.uint64pow10", Lib.tabData .u64 Lib.pow10Tab)] w := laid_tail (laid_tail h)
  cases hg : Tryd.prog.globalNamed "internal/strconv.uint64pow10" with
  | none => intro g hg'; rw [hg] at hg'; cases hg'
  | some g =>
    have e : g = (Tryd.prog.globalNamed "internal/strconv.uint64pow10").getD 0 := by rw [hg]; rfl
    subst e
    exact gl_of_tab (Lib.tabIs_of_head (t := 138) (e := 126) (n := 20) hg (by kernel_rfl) (by kernel_rfl) (by kernel_rfl) (by kernel_rfl) (by kernel_rfl) h3)

set_option maxRecDepth 100000 in
theorem liftedFormatFractions (os : Os) (started : os.Started) (H : Type) (enc : TypeId × Value → H) :
    ReturnsInHanded {} Tryd.checked os 6 .any (fun w args => (Rows.fnExactFormatFractionsSpec.pre enc Tryd.prog Tryd.f6 [] false w args ∧ laidMetH Tryd.prog Rows.fnExactFormatFractionsRow.laid w) ∧ sizedMet enc Tryd.prog Tryd.f6 (OpenSpec.ofChange Rows.fnExactFormatFractionsSpec) false w args)
      (Rows.fnExactFormatFractionsSpec.post enc Tryd.prog Tryd.f6 false true false false) :=
  framedL (C := Tryd.checked) (tb := 4) (started := started) ownP (by kernel_rfl) Tryd.func6
    (ChangeSpec.witness_shaped (enc := enc) (C := Tryd.checked) (os := os) (X := fun w _ => laidMetH Tryd.prog Rows.fnExactFormatFractionsRow.laid w) false (World.laidAll Tryd.prog os Rows.fnExactFormatFractionsRow.laid) #[.slice none 0 0] 8 (World.laidAll_os _ _ _)
      (World.shaped_of_ZipB (by kernel_rfl) (by kernel_rfl)) (by kernel_rfl) (by kernel_rfl) (by kernel_rfl)
      (by rw [MakeChecks.laidMetH_plain _ _ _ (by kernel_rfl)]; exact laidMet_laidAll _ (by kernel_rfl) (by kernel_rfl)))
    laidOutP (by kernel_rfl) (by kernel_rfl) rfl Tryd.underlying4 rfl
    (fun ds h => by match ds, h with | [_], _ => rfl) tabOf lawFormatFractions

theorem overFormatFractions : Rows.FnExactFormatFractionsSaid :=
  OpenClaim.holds_of_wide 6 Tryd.f6 rfl rfl rfl rfl rfl rfl rfl ⟨rfl, rfl, rfl, rfl, rfl⟩ rfl rfl rfl rfl rfl (by kernel_rfl) Tryd.func6 (by kernel_rfl)
    (of_decide_eq_true (by kernel_rfl)) (by unfold Func.isWrapper; first | (rw [if_pos (by decide +kernel)]; kernel_rfl) | (rw [if_neg (by decide +kernel)]; exact ⟨rfl, rfl⟩))
    (fun os started H enc _ => liftedFormatFractions os started H enc)

theorem provedFormatFractions : Rows.FnExactFormatFractionsCardSaid :=
  Claim7.holds_tied_plain_at .later [] [.data, .data, .data] true _ false overFormatFractions (fun _ h => by cases h) (by kernel_rfl) (fun _ h => by cases h) fnExactFormatFractions_row_tie rfl ⟨rfl, rfl⟩ (by kernel_rfl) rfl
    (fun f fn hf hfn => by
      obtain rfl : f = 6 := Option.some.inj ((show Tryd.prog.funcNamed "loop.example/g03202/laws.FnExactFormatFractions" = some 6 by kernel_rfl).symm.trans hf) |>.symm
      obtain rfl : fn = Tryd.f6 := (Option.some.inj (Tryd.func6.symm.trans hfn)).symm
      exact ⟨by kernel_rfl, fun j t ht => by
        rw [Tryd.params6] at ht
        have hm : t ∈ [30] := by simpa using Array.mem_of_getElem? ht
        have hall : ([30].all fun u => !Tryd.prog.wantsStandIn u) = true := by kernel_rfl
        exact (show Tryd.prog.wantsStandIn t = false by simpa using List.all_eq_true.1 hall t hm)⟩)
    (by kernel_rfl)
#print axioms provedFormatFractions
end Go.Proofs.YtlkgppincgpfjaaDoor.Ax
