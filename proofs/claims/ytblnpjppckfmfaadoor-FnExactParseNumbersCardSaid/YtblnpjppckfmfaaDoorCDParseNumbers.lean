/-
  PROVED: the tied card of FnExactParseNumbers: it returns true for all arguments, and its arguments read as they did. No condition.
-/
import Derived.Test.YtblnpjppckfmfaaDoorRows
import Derived.Test.YtblnpjppckfmfaaDoorCards
import Derived.Test.YtblnpjppckfmfaaDoorTie
import Derived.Lay
import Derived.Handy
import Derived.Test.YtblnpjppckfmfaaDoorCB1
import Derived.Test.YtblnpjppckfmfaaDoorCK4
import Derived.Test.YtblnpjppckfmfaaDoorCLParseNumbers
namespace Go.Proofs.YtblnpjppckfmfaaDoor.Ax
open Go Go.RowKit Go.ChangeShapes Go.WideShapes Go.ChangeAt

theorem lawParseNumbers : ∀ l, DatL Tryd.prog Tryd.f3.params.toList l → CallOk Tryd.prog 3 l (.v (.bool true)) := by
  intro l h
  rw [Tryd.params3] at h
  obtain ⟨b0, _, rfl, hb0, rfl⟩ := h
  obtain ⟨s, rfl, _⟩ := hb0.str Tryd.underlying9
  exact law_ParseNumbers s

theorem tabOf (w : World) (h : laidMetH Tryd.prog Rows.fnExactParseNumbersRow.laid w) : Gl (fun b => b < w.heap.size) w := by
  rw [MakeChecks.laidMetH_plain _ _ _ (by kernel_rfl)] at h
  have h3 : laidMet Tryd.prog (("internal/strconv.uint64pow10", Lib.tabData .u64 Lib.pow10Tab) :: _) w := laid_tail (laid_tail h)
  have h5 := laid_tail (laid_tail h3)
  have h6 := laid_tail h5
  have tb : GlT (fun b => b < w.heap.size) w := by
    cases hg : Tryd.prog.globalNamed "internal/strconv.uint64pow10" with
    | none => intro g hg'; rw [hg] at hg'; cases hg'
    | some g =>
      have e : g = (Tryd.prog.globalNamed "internal/strconv.uint64pow10").getD 0 := by rw [hg]; rfl
      subst e
      exact glT_of_tab (Lib.tabIs_of_head (t := 137) (e := 105) (n := 20) hg (by kernel_rfl) (by kernel_rfl) (by kernel_rfl) (by kernel_rfl) (by kernel_rfl) h3)
  exact ⟨tb, errG_of_laid (g := Tryd.laysAtoi_ren.g 15) (t := 53) (ms := #[("Error", 95)]) (by kernel_rfl) (by kernel_rfl) (by kernel_rfl) h6, errG_of_laid (g := Tryd.laysAtoi_ren.g 16) (t := 53) (ms := #[("Error", 95)]) (by kernel_rfl) (by kernel_rfl) (by kernel_rfl) h5⟩

set_option maxRecDepth 100000 in
theorem liftedParseNumbers (os : Os) (started : os.Started) (H : Type) (enc : TypeId × Value → H) :
    ReturnsInHanded {} Tryd.checked os 3 .any (fun w args => (Rows.fnExactParseNumbersSpec.pre enc Tryd.prog Tryd.f3 [] false w args ∧ laidMetH Tryd.prog Rows.fnExactParseNumbersRow.laid w) ∧ sizedMet enc Tryd.prog Tryd.f3 (OpenSpec.ofChange Rows.fnExactParseNumbersSpec) false w args)
      (Rows.fnExactParseNumbersSpec.post enc Tryd.prog Tryd.f3 false true false false) :=
  framedL (C := Tryd.checked) (tb := 4) (started := started) ownP (by kernel_rfl) Tryd.func3
    (ChangeSpec.witness_shaped (enc := enc) (C := Tryd.checked) (os := os) (X := fun w _ => laidMetH Tryd.prog Rows.fnExactParseNumbersRow.laid w) false (World.laidAll Tryd.prog os Rows.fnExactParseNumbersRow.laid) #[.string ⟨#[]⟩] 8 (World.laidAll_os _ _ _)
      (World.shaped_of_ZipB (by kernel_rfl) (by kernel_rfl)) (by kernel_rfl) (by kernel_rfl) (by kernel_rfl)
      (by rw [MakeChecks.laidMetH_plain _ _ _ (by kernel_rfl)]; exact laidMet_laidAll _ (by kernel_rfl) (by kernel_rfl)))
    laidOutP (by kernel_rfl) (by kernel_rfl) rfl Tryd.underlying4 rfl
    (fun ds h => by match ds, h with | [_], _ => rfl) tabOf lawParseNumbers

theorem overParseNumbers : Rows.FnExactParseNumbersSaid :=
  OpenClaim.holds_of_wide 3 Tryd.f3 rfl rfl rfl rfl rfl rfl rfl ⟨rfl, rfl, rfl, rfl, rfl⟩ rfl rfl rfl rfl rfl (by kernel_rfl) Tryd.func3 (by kernel_rfl)
    (of_decide_eq_true (by kernel_rfl)) (by unfold Func.isWrapper; first | (rw [if_pos (by decide +kernel)]; kernel_rfl) | (rw [if_neg (by decide +kernel)]; exact ⟨rfl, rfl⟩))
    (fun os started H enc _ => liftedParseNumbers os started H enc)

theorem provedParseNumbers : Rows.FnExactParseNumbersCardSaid :=
  Claim7.holds_tied_plain_at .later [] [.data, .data, .data, .data, .sentinel, .sentinel, .pinned] true _ _ overParseNumbers (fun _ h => by cases h) (by kernel_rfl) (fun _ h => by cases h) fnExactParseNumbers_row_tie rfl ⟨rfl, rfl⟩ (by kernel_rfl) rfl
    (fun f fn hf hfn => by
      obtain rfl : f = 3 := Option.some.inj ((show Tryd.prog.funcNamed "loop.example/g03202/laws.FnExactParseNumbers" = some 3 by kernel_rfl).symm.trans hf) |>.symm
      obtain rfl : fn = Tryd.f3 := (Option.some.inj (Tryd.func3.symm.trans hfn)).symm
      exact ⟨by kernel_rfl, fun j t ht => by
        rw [Tryd.params3] at ht
        have hm : t ∈ [9] := by simpa using Array.mem_of_getElem? ht
        have hall : ([9].all fun u => !Tryd.prog.wantsStandIn u) = true := by kernel_rfl
        exact (show Tryd.prog.wantsStandIn t = false by simpa using List.all_eq_true.1 hall t hm)⟩)
    (by kernel_rfl)
#print axioms provedParseNumbers
end Go.Proofs.YtblnpjppckfmfaaDoor.Ax
