/-
 PROVED: the tied card of FnConfirms: it returns true for all codes, and its argument reads as it did. No condition.
-/
import Derived.Test.YtompijgfpeibnaaGreatDoorRows
import Derived.Test.YtompijgfpeibnaaGreatDoorCards
import Derived.Test.YtompijgfpeibnaaGreatDoorTie
import Derived.Lay
import Derived.Handy
import Derived.Test.YtompijgfpeibnaaGreatDoorCB7
import Derived.Test.YtompijgfpeibnaaGreatDoorCK4
import Derived.Test.YtompijgfpeibnaaGreatDoorCG21
import Derived.Test.YtompijgfpeibnaaGreatDoorCDConfirmsA
import Derived.Test.YtompijgfpeibnaaGreatDoorCDConfirmsB
import Derived.Test.YtompijgfpeibnaaGreatDoorCDConfirmsE
namespace Go.Proofs.YtompijgfpeibnaaGreatDoor.Ax
open Go Go.RowKit Go.ChangeShapes Go.WideShapes Go.ChangeAt
theorem datByts {a : AV} (h : DatE Tryz.prog 22 a) : ∃ nl xs, a = byts nl xs ∧ xs.length ≤ maxLen := by
 obtain ⟨nl, es, rfl, hl, hes⟩ := h.slice Tryz.underlying22
 obtain ⟨xs, rfl, _⟩ := list_of (f := bAV) (Q := fun _ => True) (fun x hx => by
  obtain ⟨n, rfl, _⟩ := (hes x hx).int Tryz.underlying5
  exact ⟨n, rfl, trivial⟩)
 exact ⟨nl, xs, by rw [show Tryz.prog.cellsOf 5 = 1 from by kernel_rfl]; rfl, by simpa using hl⟩
theorem lawConfirms : ∀ l, DatL Tryz.prog Tryz.f3.params.toList l → CallOk Tryz.prog 3 l (.v (.bool true)) := by
 intro l h
 rw [Tryz.params3] at h
 obtain ⟨b0, _, rfl, hb0, rfl⟩ := h
 obtain ⟨n0, x0, rfl, _⟩ := datByts hb0
 exact fnConfirms_call n0 x0
theorem tabOf (w : World) (h : laidMetH Tryz.prog Rows.fnConfirmsRow.laid w) : Gl (fun b => b < w.heap.size) w := by
 rw [MakeChecks.laidMetH_plain _ _ _ (by kernel_rfl)] at h
 have h3 : laidMet Tryz.prog (("internal/strconv.uint64pow10", Lib.tabData .u64 Lib.pow10Tab) :: _) w := laid_tail (laid_tail h)
 have h5 := laid_tail (laid_tail h3)
 have h6 := laid_tail h5
 have tb : GlT (fun b => b < w.heap.size) w := by
  cases hg : Tryz.prog.globalNamed "internal/strconv.uint64pow10" with
  | none => intro g hg'; rw [hg] at hg'; cases hg'
  | some g =>
   have e : g = (Tryz.prog.globalNamed "internal/strconv.uint64pow10").getD 0 := by rw [hg]; rfl
   subst e
   exact glT_of_tab (Lib.tabIs_of_head (t := 214) (e := 149) (n := 20) hg (by kernel_rfl) (by kernel_rfl) (by kernel_rfl) (by kernel_rfl) (by kernel_rfl) h3)
 exact ⟨tb, errG_of_laid (g := Tryz.laysAtoi_ren.g 15) (t := 46) (ms := #[("Error", 49)]) (by kernel_rfl) (by kernel_rfl) (by kernel_rfl) h6, errG_of_laid (g := Tryz.laysAtoi_ren.g 16) (t := 46) (ms := #[("Error", 49)]) (by kernel_rfl) (by kernel_rfl) (by kernel_rfl) h5⟩
set_option maxRecDepth 100000 in
theorem liftedConfirms (os : Os) (started : os.Started) (H : Type) (enc : TypeId × Value → H) :
  ReturnsInHanded {} Tryz.checked os 3 .any (fun w args => (Rows.fnConfirmsSpec.pre enc Tryz.prog Tryz.f3 [] false w args ∧ laidMetH Tryz.prog Rows.fnConfirmsRow.laid w) ∧ sizedMet enc Tryz.prog Tryz.f3 (OpenSpec.ofChange Rows.fnConfirmsSpec) false w args)
   (Rows.fnConfirmsSpec.post enc Tryz.prog Tryz.f3 false true false false) :=
 framedL (C := Tryz.checked) (tb := 4) (started := started) ownP (by kernel_rfl) Tryz.func3
  (ChangeSpec.witness_shaped (enc := enc) (C := Tryz.checked) (os := os) (X := fun w _ => laidMetH Tryz.prog Rows.fnConfirmsRow.laid w) false (World.laidAll Tryz.prog os Rows.fnConfirmsRow.laid) #[.slice none 0 0] 8 (World.laidAll_os _ _ _)
   (World.shaped_of_ZipB (by kernel_rfl) (by kernel_rfl)) (by kernel_rfl) (by kernel_rfl) (by kernel_rfl)
   (by rw [MakeChecks.laidMetH_plain _ _ _ (by kernel_rfl)]; exact laidMet_laidAll _ (by kernel_rfl) (by kernel_rfl)))
  laidOutP (by kernel_rfl) (by kernel_rfl) rfl Tryz.underlying4 rfl
  (fun ds h => by match ds, h with | [_], _ => rfl) tabOf lawConfirms
theorem band {a b : Bool} (ha : a = true) (hb : b = true) : (a && b) = true := by rw [ha, hb]; rfl
set_option maxRecDepth 20000 in
theorem factsConfirms : joinedFacts Tryz.prog 3 Tryz.f3 Rows.fnConfirmsSpec Rows.fnConfirmsRow = true := by
 unfold joinedFacts
 refine band ?_ jf31
 refine band ?_ jf30
 refine band ?_ jf29
 refine band ?_ jf28
 refine band ?_ jf27
 refine band ?_ jf26
 refine band ?_ jf25
 refine band ?_ jf24
 refine band ?_ jf23
 refine band ?_ jf22
 refine band ?_ jf21
 refine band ?_ jf20
 refine band ?_ jf19
 refine band ?_ jf18
 refine band ?_ jf17
 refine band ?_ jf16
 refine band ?_ jf15
 refine band ?_ jf14
 refine band ?_ jf13
 refine band ?_ jf12
 refine band ?_ jf11
 refine band ?_ jf10
 refine band ?_ jf9
 refine band ?_ jf8
 refine band ?_ jf7
 refine band ?_ jf6
 refine band ?_ jf5
 refine band ?_ jf4
 refine band ?_ jf3
 refine band ?_ jf2
 refine band ?_ jf1
 exact jf0
theorem overConfirms : Rows.FnConfirmsSaid :=
 OpenClaim.holds_of_wide 3 Tryz.f3 rfl rfl rfl rfl rfl rfl rfl ⟨rfl, rfl, rfl, rfl, rfl⟩ rfl rfl rfl rfl rfl (by kernel_rfl) Tryz.func3 factsConfirms
  (of_decide_eq_true (by kernel_rfl)) (by unfold Func.isWrapper; first | (rw [if_pos (by decide +kernel)]; kernel_rfl) | (rw [if_neg (by decide +kernel)]; exact ⟨rfl, rfl⟩))
  (fun os started H enc _ => liftedConfirms os started H enc)
theorem provedFnConfirms : Rows.FnConfirmsCardSaid :=
 Claim7.holds_tied_plain_at .later [] [.data, .data, .data, .data, .sentinel, .sentinel, .pinned] true _ _ overConfirms (fun _ h => by cases h) (by kernel_rfl) (fun _ h => by cases h) fnConfirms_row_tie rfl ⟨rfl, rfl⟩ pcMain rfl
  (fun f fn hf hfn => by
   obtain rfl : f = 3 := Option.some.inj ((show Tryz.prog.funcNamed "loop.example/g03202/laws.FnConfirms" = some 3 by kernel_rfl).symm.trans hf) |>.symm
   obtain rfl : fn = Tryz.f3 := (Option.some.inj (Tryz.func3.symm.trans hfn)).symm
   exact ⟨pcLooks, fun j t ht => by
    rw [Tryz.params3] at ht
    have hm : t ∈ [22] := by simpa using Array.mem_of_getElem? ht
    have hall : ([22].all fun u => !Tryz.prog.wantsStandIn u) = true := by kernel_rfl
    exact (show Tryz.prog.wantsStandIn t = false by simpa using List.all_eq_true.1 hall t hm)⟩)
  pcGoes
#print axioms provedFnConfirms
end Go.Proofs.YtompijgfpeibnaaGreatDoor.Ax
