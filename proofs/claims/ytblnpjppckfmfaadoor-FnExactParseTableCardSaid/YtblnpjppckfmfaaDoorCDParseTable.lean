/-
  PROVED: the tied card of FnExactParseTable: it returns true for all arguments, and its arguments read as they did. No condition.
-/
import Derived.Test.YtblnpjppckfmfaaDoorRows
import Derived.Test.YtblnpjppckfmfaaDoorCards
import Derived.Test.YtblnpjppckfmfaaDoorTie
import Derived.Lay
import Derived.Handy
import Derived.Test.YtblnpjppckfmfaaDoorCB1
import Derived.Test.YtblnpjppckfmfaaDoorCK4
import Derived.Test.YtblnpjppckfmfaaDoorCLParseTable
namespace Go.Proofs.YtblnpjppckfmfaaDoor.Ax
open Go Go.RowKit Go.ChangeShapes Go.WideShapes Go.ChangeAt

theorem lawParseTable : ∀ l, DatL Tryd.prog Tryd.f4.params.toList l → CallOk Tryd.prog 4 l (.v (.bool true)) := by
  intro l h
  rw [Tryd.params4] at h
  obtain ⟨b0, _, rfl, hb0, rfl⟩ := h
  obtain ⟨s, rfl, _⟩ := hb0.str Tryd.underlying9
  exact law_ParseTable s

theorem tabOf (w : World) (h : laidMetH Tryd.prog Rows.fnExactParseTableRow.laid w) : Gl (fun b => b < w.heap.size) w := by
  rw [MakeChecks.laidMetH_plain _ _ _ (by kernel_rfl)] at h
  have h3 : laidMet Tryd.prog (("internal/strconv.uint64pow10", Lib.tabData .u64 Lib.pow10Tab) :: _) w := laid_tail (laid_tail h)
  have h5 := laid_tail (laid_tail h3)
  have h6 := laid_tail h5
  have tb : GlT (fun b => b < w.heap.size) w := by
    cases hg : Tryd.prog.globalNamed "internal/strconv.uint64pow10" with
    | none => intro g hg'; rw [hg] at hg'; cases hg'
    | some g =>
      have e : g = (Tryd.prog.globalNamed "internal/strconv.uint64pow10").getD 0 := by rw [hg]; rfl
      subst e
      exact glT_of_tab (Lib.tabIs_of_head (t := 137) (e := 105) (n := 20) hg (by kernel_rfl) (by kernel_rfl) (by kernel_rfl) (by kernel_rfl) (by kernel_rfl) h3)
  exact ⟨tb, errG_of_laid (g := Tryd.laysAtoi_ren.g 15) (t := 53) (ms := #[("Error", 95)]) (by kernel_rfl) (by kernel_rfl) (by kernel_rfl) h6, errG_of_laid (g := Tryd.laysAtoi_ren.g 16) (t := 53) (ms := #[("Error", 95)]) (by kernel_rfl) (by kernel_rfl) (by kernel_rfl) h5⟩

set_option maxRecDepth 100000 in
theorem liftedParseTable (os : Os) (started : os.Started) (H : Type) (enc : TypeId × Value → H) :
    ReturnsInHanded {} Tryd.checked os 4 .any (fun w args => (Rows.fnExactParseTableSpec.pre enc Tryd.prog Tryd.f4 [] false w args ∧ laidMetH Tryd.prog Rows.fnExactParseTableRow.laid w) ∧ sizedMet enc Tryd.prog Tryd.f4 (OpenSpec.ofChange Rows.fnExactParseTableSpec) false w args)
      (Rows.fnExactParseTableSpec.post enc Tryd.prog Tryd.f4 false true false false) :=
  framedL (C := Tryd.checked) (tb := 4) (started := started) ownP (by kernel_rfl) Tryd.func4
    (ChangeSpec.witness_shaped (enc := enc) (C := Tryd.checked) (os := os) (X := fun w _ => laidMetH Tryd.prog Rows.fnExactParseTableRow.laid w) false (World.laidAll Tryd.prog os Rows.fnExactParseTableRow.laid) #[.string ⟨#[]⟩] 8 (World.laidAll_os _ _ _)
      (World.shaped_of_ZipB (by kernel_rfl) (by kernel_rfl)) (by kernel_rfl) (by kernel_rfl) (by kernel_rfl)
      (by rw [MakeChecks.laidMetH_plain _ _ _ (by kernel_rfl)]; exact laidMet_laidAll _ (by kernel_rfl) (by kernel_rfl)))
    laidOutP (by kernel_rfl) (by kernel_rfl) rfl Tryd.underlying4 rfl
    (fun ds h => by match ds, h with | [_], _ => rfl) tabOf lawParseTable

theorem overParseTable : Rows.FnExactParseTableSaid :=
  OpenClaim.holds_of_wide 4 Tryd.f4 rfl rfl rfl rfl rfl rfl rfl ⟨rfl, rfl, rfl, rfl, rfl⟩ rfl rfl rfl rfl rfl (by kernel_rfl) Tryd.func4 (by kernel_rfl)
    (of_decide_eq_true (by kernel_rfl)) (by unfold Func.isWrapper; first | (rw [if_pos (by decide +kernel)]; kernel_rfl) | (rw [if_neg (by decide +kernel)]; exact ⟨rfl, rfl⟩))
    (fun os started H enc _ => liftedParseTable os started H enc)

theorem provedParseTable : Rows.FnExactParseTableCardSaid :=
  Claim7.holds_tied_plain_at .later [] [.data, .data, .data, .data, .sentinel, .sentinel, .pinned] true _ _ overParseTable (fun _ h => by cases h) (by kernel_rfl) (fun _ h => by cases h) fnExactParseTable_row_tie rfl ⟨rfl, rfl⟩ (by kernel_rfl) rfl
    (fun f fn hf hfn => by
      obtain rfl : f = 4 := Option.some.inj ((show Tryd.prog.funcNamed "loop.example/g03202/laws.FnExactParseTable" = some 4 by kernel_rfl).symm.trans hf) |>.symm
      obtain rfl : fn = Tryd.f4 := (Option.some.inj (Tryd.func4.symm.trans hfn)).symm
      exact ⟨by kernel_rfl, fun j t ht => by
        rw [Tryd.params4] at ht
        have hm : t ∈ [9] := by simpa using Array.mem_of_getElem? ht
        have hall : ([9].all fun u => !Tryd.prog.wantsStandIn u) = true := by kernel_rfl
        exact (show Tryd.prog.wantsStandIn t = false by simpa using List.all_eq_true.1 hall t hm)⟩)
    (by kernel_rfl)
#print axioms provedParseTable
end Go.Proofs.YtblnpjppckfmfaaDoor.Ax
