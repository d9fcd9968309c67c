/-
  PROVED: the tied card of FnExactNewConsole: it returns true. No condition.
-/
import Derived.Test.YtigepnpiofcooaaGreatDoorRows
import Derived.Test.YtigepnpiofcooaaGreatDoorCards
import Derived.Test.YtigepnpiofcooaaGreatDoorTie
import Derived.Lay
import Derived.Handy
import Derived.Test.YtigepnpiofcooaaGreatDoorCB1
import Derived.Test.YtigepnpiofcooaaGreatDoorCK4
import Derived.Test.YtigepnpiofcooaaGreatDoorCG13
namespace Go.Proofs.YtigepnpiofcooaaGreatDoor.Ax
open Go Go.RowKit Go.ChangeShapes Go.WideShapes Go.ChangeAt
theorem lawNewConsole : ∀ l, DatL Tryz.prog Tryz.f3.params.toList l → CallOk Tryz.prog 3 l (.v (.bool true)) := by
  intro l h
  rw [Tryz.params3] at h
  have hl : l = [] := by simpa [DatL] using h
  subst hl
  exact fnNewConsole_call
theorem tabOf (w : World) (h : laidMetH Tryz.prog Rows.fnExactNewConsoleRow.laid w) : Gl (fun b => b < w.heap.size) w := by
  rw [MakeChecks.laidMetH_plain _ _ _ (by kernel_rfl)] at h
  have h3 : laidMet Tryz.prog (("internal/strconv.uint64pow10", Lib.tabData .u64 Lib.pow10Tab) :: _) w := laid_tail (laid_tail h)
  have h5 := laid_tail (laid_tail h3)
  have h6 := laid_tail h5
  have tb : GlT (fun b => b < w.heap.size) w := by
    cases hg : Tryz.prog.globalNamed "internal/strconv.uint64pow10" with
    | none => intro g hg'; rw [hg] at hg'; cases hg'
    | some g =>
      have e : g = (Tryz.prog.globalNamed "internal/strconv.uint64pow10").getD 0 := by rw [hg]; rfl
      subst e
      exact glT_of_tab (Lib.tabIs_of_head (t := 119) (e := 88) (n := 20) hg (by kernel_rfl) (by kernel_rfl) (by kernel_rfl) (by kernel_rfl) (by kernel_rfl) h3)
  exact ⟨tb, errG_of_laid (g := Tryz.laysAtoi_ren.g 15) (t := 62) (ms := #[("Error", 100)]) (by kernel_rfl) (by kernel_rfl) (by kernel_rfl) h6, errG_of_laid (g := Tryz.laysAtoi_ren.g 16) (t := 62) (ms := #[("Error", 100)]) (by kernel_rfl) (by kernel_rfl) (by kernel_rfl) h5⟩
set_option maxRecDepth 100000 in
theorem liftedNewConsole (os : Os) (started : os.Started) (H : Type) (enc : TypeId × Value → H) :
    ReturnsInHanded {} Tryz.checked os 3 .any (fun w args => (Rows.fnExactNewConsoleSpec.pre enc Tryz.prog Tryz.f3 [] false w args ∧ laidMetH Tryz.prog Rows.fnExactNewConsoleRow.laid w) ∧ sizedMet enc Tryz.prog Tryz.f3 (OpenSpec.ofChange Rows.fnExactNewConsoleSpec) false w args)
      (Rows.fnExactNewConsoleSpec.post enc Tryz.prog Tryz.f3 false true false false) :=
  framedL (C := Tryz.checked) (tb := 4) (started := started) ownP (by kernel_rfl) Tryz.func3
    (ChangeSpec.witness_shaped (enc := enc) (C := Tryz.checked) (os := os) (X := fun w _ => laidMetH Tryz.prog Rows.fnExactNewConsoleRow.laid w) false (World.laidAll Tryz.prog os Rows.fnExactNewConsoleRow.laid) #[] 8 (World.laidAll_os _ _ _)
      (World.shaped_of_ZipB (by kernel_rfl) (by kernel_rfl)) (by kernel_rfl) (by kernel_rfl) (by kernel_rfl)
      (by rw [MakeChecks.laidMetH_plain _ _ _ (by kernel_rfl)]; exact laidMet_laidAll _ (by kernel_rfl) (by kernel_rfl)))
    laidOutP (by kernel_rfl) (by kernel_rfl) rfl Tryz.underlying4 rfl
    (fun ds h => by match ds, h with | [], _ => rfl) tabOf lawNewConsole
theorem overNewConsole : Rows.FnExactNewConsoleSaid :=
  OpenClaim.holds_of_wide 3 Tryz.f3 rfl rfl rfl rfl rfl rfl rfl ⟨rfl, rfl, rfl, rfl, rfl⟩ rfl rfl rfl rfl rfl (by kernel_rfl) Tryz.func3 (by kernel_rfl)
    (of_decide_eq_true (by kernel_rfl)) (by unfold Func.isWrapper; first | (rw [if_pos (by decide +kernel)]; kernel_rfl) | (rw [if_neg (by decide +kernel)]; exact ⟨rfl, rfl⟩))
    (fun os started H enc _ => liftedNewConsole os started H enc)
theorem provedNewConsole : Rows.FnExactNewConsoleCardSaid :=
  Claim7.holds_tied_plain_at .later [] [.data, .data, .data, .data, .sentinel, .sentinel, .pinned] true _ _ overNewConsole (fun _ h => by cases h) (by kernel_rfl) (fun _ h => by cases h) fnExactNewConsole_row_tie rfl ⟨rfl, rfl⟩ (by kernel_rfl) rfl
    (fun f fn hf hfn => by
      obtain rfl : f = 3 := Option.some.inj ((show Tryz.prog.funcNamed "loop.example/g03202/laws.FnExactNewConsole" = some 3 by kernel_rfl).symm.trans hf) |>.symm
      obtain rfl : fn = Tryz.f3 := (Option.some.inj (Tryz.func3.symm.trans hfn)).symm
      exact ⟨by kernel_rfl, fun j t ht => by
        rw [Tryz.params3] at ht
        simp at ht⟩)
    (by kernel_rfl)
#print axioms provedNewConsole
end Go.Proofs.YtigepnpiofcooaaGreatDoor.Ax
