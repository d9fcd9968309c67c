/-
  PROVED: the tied card of FnTexts: it returns true for all codes, and its argument reads as it did. No condition.
-/
import Derived.Test.YtkfmhpgnhkdebaaGreatDoorRows
import Derived.Test.YtkfmhpgnhkdebaaGreatDoorCards
import Derived.Test.YtkfmhpgnhkdebaaGreatDoorTie
import Derived.Lay
import Derived.Handy
import Derived.Test.YtkfmhpgnhkdebaaGreatDoorCB1
import Derived.Test.YtkfmhpgnhkdebaaGreatDoorCK4
import Derived.Test.YtkfmhpgnhkdebaaGreatDoorCG23
namespace Go.Proofs.YtkfmhpgnhkdebaaGreatDoor.Ax
open Go Go.RowKit Go.ChangeShapes Go.WideShapes Go.ChangeAt
theorem datByts {a : AV} (h : DatE Tryz.prog 33 a) : ∃ nl xs, a = byts nl xs ∧ xs.length ≤ maxLen := by
  obtain ⟨nl, es, rfl, hl, hes⟩ := h.slice Tryz.underlying33
  obtain ⟨xs, rfl, _⟩ := list_of (f := bAV) (Q := fun _ => True) (fun x hx => by
    obtain ⟨n, rfl, _⟩ := (hes x hx).int Tryz.underlying5
    exact ⟨n, rfl, trivial⟩)
  exact ⟨nl, xs, by rw [show Tryz.prog.cellsOf 5 = 1 from by kernel_rfl]; rfl, by simpa using hl⟩
theorem lawTexts : ∀ l, DatL Tryz.prog Tryz.f6.params.toList l → CallOk Tryz.prog 6 l (.v (.bool true)) := by
  intro l h
  rw [Tryz.params6] at h
  obtain ⟨b0, _, rfl, hb0, rfl⟩ := h
  obtain ⟨n0, x0, rfl, _⟩ := datByts hb0
  exact fnTexts_call
theorem tabOf (w : World) (h : laidMetH Tryz.prog Rows.fnTextsRow.laid w) : Gl (fun b => b < w.heap.size) w := by
  rw [MakeChecks.laidMetH_plain _ _ _ (by kernel_rfl)] at h
  have h3 : laidMet Tryz.prog (("internal/strconv.uint64pow10", Lib.tabData .u64 Lib.pow10Tab) :: _) w := laid_tail (laid_tail h)
  have h5 := laid_tail (laid_tail h3)
  have h6 := laid_tail h5
  have tb : GlT (fun b => b < w.heap.size) w := by
    cases hg : Tryz.prog.globalNamed "internal/strconv.uint64pow10" with
    | none => intro g hg'; rw [hg] at hg'; cases hg'
    | some g =>
      have e : g = (Tryz.prog.globalNamed "internal/strconv.uint64pow10").getD 0 := by rw [hg]; rfl
      subst e
      exact glT_of_tab (Lib.tabIs_of_head (t := 250) (e := 208) (n := 20) hg (by kernel_rfl) (by kernel_rfl) (by kernel_rfl) (by kernel_rfl) (by kernel_rfl) h3)
  exact ⟨tb, errG_of_laid (g := Tryz.laysAtoi_ren.g 15) (t := 181) (ms := #[("Error", 200)]) (by kernel_rfl) (by kernel_rfl) (by kernel_rfl) h6, errG_of_laid (g := Tryz.laysAtoi_ren.g 16) (t := 181) (ms := #[("Error", 200)]) (by kernel_rfl) (by kernel_rfl) (by kernel_rfl) h5⟩
set_option maxRecDepth 100000 in
theorem liftedTexts (os : Os) (started : os.Started) (H : Type) (enc : TypeId × Value → H) :
    ReturnsInHanded {} Tryz.checked os 6 .any (fun w args => (Rows.fnTextsSpec.pre enc Tryz.prog Tryz.f6 [] false w args ∧ laidMetH Tryz.prog Rows.fnTextsRow.laid w) ∧ sizedMet enc Tryz.prog Tryz.f6 (OpenSpec.ofChange Rows.fnTextsSpec) false w args)
      (Rows.fnTextsSpec.post enc Tryz.prog Tryz.f6 false true false false) :=
  framedL (C := Tryz.checked) (tb := 4) (started := started) ownP (by kernel_rfl) Tryz.func6
    (ChangeSpec.witness_shaped (enc := enc) (C := Tryz.checked) (os := os) (X := fun w _ => laidMetH Tryz.prog Rows.fnTextsRow.laid w) false (World.laidAll Tryz.prog os Rows.fnTextsRow.laid) #[.slice none 0 0] 8 (World.laidAll_os _ _ _)
      (World.shaped_of_ZipB (by kernel_rfl) (by kernel_rfl)) (by kernel_rfl) (by kernel_rfl) (by kernel_rfl)
      (by rw [MakeChecks.laidMetH_plain _ _ _ (by kernel_rfl)]; exact laidMet_laidAll _ (by kernel_rfl) (by kernel_rfl)))
    laidOutP (by kernel_rfl) (by kernel_rfl) rfl Tryz.underlying4 rfl
    (fun ds h => by match ds, h with | [_], _ => rfl) tabOf lawTexts
theorem overTexts : Rows.FnTextsSaid :=
  OpenClaim.holds_of_wide 6 Tryz.f6 rfl rfl rfl rfl rfl rfl rfl ⟨rfl, rfl, rfl, rfl, rfl⟩ rfl rfl rfl rfl rfl (by kernel_rfl) Tryz.func6 (by kernel_rfl)
    (of_decide_eq_true (by kernel_rfl)) (by unfold Func.isWrapper; first | (rw [if_pos (by decide +kernel)]; kernel_rfl) | (rw [if_neg (by decide +kernel)]; exact ⟨rfl, rfl⟩))
    (fun os started H enc _ => liftedTexts os started H enc)
theorem provedFnTexts : Rows.FnTextsCardSaid :=
  Claim7.holds_tied_plain_at .later [] [.data, .data, .data, .data, .sentinel, .sentinel, .pinned] true _ _ overTexts (fun _ h => by cases h) (by kernel_rfl) (fun _ h => by cases h) fnTexts_row_tie rfl ⟨rfl, rfl⟩ (by kernel_rfl) rfl
    (fun f fn hf hfn => by
      obtain rfl : f = 6 := Option.some.inj ((show Tryz.prog.funcNamed "loop.example/g03202/laws.FnTexts" = some 6 by kernel_rfl).symm.trans hf) |>.symm
      obtain rfl : fn = Tryz.f6 := (Option.some.inj (Tryz.func6.symm.trans hfn)).symm
      exact ⟨by kernel_rfl, fun j t ht => by
        rw [Tryz.params6] at ht
        have hm : t ∈ [33] := by simpa using Array.mem_of_getElem? ht
        have hall : ([33].all fun u => !Tryz.prog.wantsStandIn u) = true := by kernel_rfl
        exact (show Tryz.prog.wantsStandIn t = false by simpa using List.all_eq_true.1 hall t hm)⟩)
    (by kernel_rfl)
#print axioms provedFnTexts
end Go.Proofs.YtkfmhpgnhkdebaaGreatDoor.Ax
