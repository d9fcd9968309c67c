/-
  PROVED: the tied card of FnExactFormatLottery: it returns true for all arguments, and its arguments read as they did. No condition.
-/
import Derived.Test.YtlkgppincgpfjaaDoorRows
import Derived.Test.YtlkgppincgpfjaaDoorCards
import Derived.Test.YtlkgppincgpfjaaDoorTie
import Derived.Lay
import Derived.Handy
import Derived.Test.YtlkgppincgpfjaaDoorCB3
import Derived.Test.YtlkgppincgpfjaaDoorCK4
import Derived.Test.YtlkgppincgpfjaaDoorCLFormatLottery
namespace Go.Proofs.YtlkgppincgpfjaaDoor.Ax
open Go Go.RowKit Go.ChangeShapes Go.WideShapes Go.ChangeAt

theorem lawFormatLottery : ∀ l, DatL Tryd.prog Tryd.f7.params.toList l → CallOk Tryd.prog 7 l (.v (.bool true)) := by
  intro l h
  rw [Tryd.params7] at h
  obtain ⟨b0, _, rfl, hb0, rfl⟩ := h
  obtain ⟨n0, x0, rfl, _⟩ := datLFracss hb0
  exact law_FormatLottery n0 x0

theorem tabOf (w : World) (h : laidMetH Tryd.prog Rows.fnExactFormatLotteryRow.laid w) : Gl (fun b => b < w.heap.size) w := by
  rw [MakeChecks.laidMetH_plain _ _ _ (by kernel_rfl)] at h
  have h3 : laidMet Tryd.prog [("internal/strconv.uint64pow10", Lib.tabData .u64 Lib.pow10Tab)] w := laid_tail (laid_tail h)
  cases hg : Tryd.prog.globalNamed "internal/strconv.uint64pow10" with
  | none => intro g hg'; rw [hg] at hg'; cases hg'
  | some g =>
    have e : g = (Tryd.prog.globalNamed "internal/strconv.uint64pow10").getD 0 := by rw [hg]; rfl
    subst e
    exact gl_of_tab (Lib.tabIs_of_head (t := 138) (e := 126) (n := 20) hg (by kernel_rfl) (by kernel_rfl) (by kernel_rfl) (by kernel_rfl) (by kernel_rfl) h3)

set_option maxRecDepth 100000 in
theorem liftedFormatLottery (os : Os) (started : os.Started) (H : Type) (enc : TypeId × Value → H) :
    ReturnsInHanded {} Tryd.checked os 7 .any (fun w args => (Rows.fnExactFormatLotterySpec.pre enc Tryd.prog Tryd.f7 [] false w args ∧ laidMetH Tryd.prog Rows.fnExactFormatLotteryRow.laid w) ∧ sizedMet enc Tryd.prog Tryd.f7 (OpenSpec.ofChange Rows.fnExactFormatLotterySpec) false w args)
      (Rows.fnExactFormatLotterySpec.post enc Tryd.prog Tryd.f7 false true false false) :=
  framedL (C := Tryd.checked) (tb := 4) (started := started) ownP (by kernel_rfl) Tryd.func7
    (ChangeSpec.witness_shaped (enc := enc) (C := Tryd.checked) (os := os) (X := fun w _ => laidMetH Tryd.prog Rows.fnExactFormatLotteryRow.laid w) false (World.laidAll Tryd.prog os Rows.fnExactFormatLotteryRow.laid) #[.slice none 0 0] 8 (World.laidAll_os _ _ _)
      (World.shaped_of_ZipB (by kernel_rfl) (by kernel_rfl)) (by kernel_rfl) (by kernel_rfl) (by kernel_rfl)
      (by rw [MakeChecks.laidMetH_plain _ _ _ (by kernel_rfl)]; exact laidMet_laidAll _ (by kernel_rfl) (by kernel_rfl)))
    laidOutP (by kernel_rfl) (by kernel_rfl) rfl Tryd.underlying4 rfl
    (fun ds h => by match ds, h with | [_], _ => rfl) tabOf lawFormatLottery

theorem overFormatLottery : Rows.FnExactFormatLotterySaid :=
  OpenClaim.holds_of_wide 7 Tryd.f7 rfl rfl rfl rfl rfl rfl rfl ⟨rfl, rfl, rfl, rfl, rfl⟩ rfl rfl rfl rfl rfl (by kernel_rfl) Tryd.func7 (by kernel_rfl)
    (of_decide_eq_true (by kernel_rfl)) (by unfold Func.isWrapper; first | (rw [if_pos (by decide +kernel)]; kernel_rfl) | (rw [if_neg (by decide +kernel)]; exact ⟨rfl, rfl⟩))
    (fun os started H enc _ => liftedFormatLottery os started H enc)

theorem provedFormatLottery : Rows.FnExactFormatLotteryCardSaid :=
  Claim7.holds_tied_plain_at .later [] [.data, .data, .data] true _ false overFormatLottery (fun _ h => by cases h) (by kernel_rfl) (fun _ h => by cases h) fnExactFormatLottery_row_tie rfl ⟨rfl, rfl⟩ (by kernel_rfl) rfl
    (fun f fn hf hfn => by
      obtain rfl : f = 7 := Option.some.inj ((show Tryd.prog.funcNamed "loop.example/g03202/laws.FnExactFormatLottery" = some 7 by kernel_rfl).symm.trans hf) |>.symm
      obtain rfl : fn = Tryd.f7 := (Option.some.inj (Tryd.func7.symm.trans hfn)).symm
      exact ⟨by kernel_rfl, fun j t ht => by
        rw [Tryd.params7] at ht
        have hm : t ∈ [37] := by simpa using Array.mem_of_getElem? ht
        have hall : ([37].all fun u => !Tryd.prog.wantsStandIn u) = true := by kernel_rfl
        exact (show Tryd.prog.wantsStandIn t = false by simpa using List.all_eq_true.1 hall t hm)⟩)
    (by kernel_rfl)
#print axioms provedFormatLottery
end Go.Proofs.YtlkgppincgpfjaaDoor.Ax
