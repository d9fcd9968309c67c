/-
  PROVED: the tied card of FnExactSeatLine: it returns true for all arguments, and its arguments read as they did. No condition.
-/
import Derived.Test.YtiieikknhheffaaDoorRows
import Derived.Test.YtiieikknhheffaaDoorCards
import Derived.Test.YtiieikknhheffaaDoorTie
import Derived.Lay
import Derived.Handy
import Derived.Test.YtiieikknhheffaaDoorCB1
import Derived.Test.YtiieikknhheffaaDoorCK4
import Derived.Test.YtiieikknhheffaaDoorCLSeatLine
namespace Go.Proofs.YtiieikknhheffaaDoor.Ax
open Go Go.RowKit Go.ChangeShapes Go.WideShapes Go.ChangeAt

theorem lawSeatLine : ∀ l, DatL Tryd.prog Tryd.f3.params.toList l → CallOk Tryd.prog 3 l (.v (.bool true)) := by
  intro l h
  rw [Tryd.params3] at h
  obtain ⟨b0, _, rfl, hb0, b1, _, rfl, hb1, b2, _, rfl, hb2, rfl⟩ := h
  obtain ⟨me, rfl, _⟩ := hb0.int Tryd.underlying3
  obtain ⟨n0, x0, rfl, _⟩ := datInts hb1
  obtain ⟨n, rfl, _⟩ := hb2.int Tryd.underlying3
  exact law_SeatLine me n0 x0 n

theorem tabOf (w : World) (h : laidMetH Tryd.prog Rows.fnExactSeatLineRow.laid w) : Gl (fun b => b < w.heap.size) w := by
  rw [MakeChecks.laidMetH_plain _ _ _ (by kernel_rfl)] at h
  have h3 : laidMet Tryd.prog [("internal/strconv.uint64pow10", Lib.tabData .u64 Lib.pow10Tab)] w := laid_tail (laid_tail h)
  cases hg : Tryd.prog.globalNamed "internal/strconv.uint64pow10" with
  | none => exact gl_none hg
  | some g =>
    have e : g = (Tryd.prog.globalNamed "internal/strconv.uint64pow10").getD 0 := by rw [hg]; rfl
    subst e
    exact gl_of_tab (Lib.tabIs_of_head (t := 77) (e := 66) (n := 20) hg (by kernel_rfl) (by kernel_rfl) (by kernel_rfl) (by kernel_rfl) (by kernel_rfl) h3)

set_option maxRecDepth 100000 in
theorem liftedSeatLine (os : Os) (started : os.Started) (H : Type) (enc : TypeId × Value → H) :
    ReturnsInHanded {} Tryd.checked os 3 .any (fun w args => (Rows.fnExactSeatLineSpec.pre enc Tryd.prog Tryd.f3 [] false w args ∧ laidMetH Tryd.prog Rows.fnExactSeatLineRow.laid w) ∧ sizedMet enc Tryd.prog Tryd.f3 (OpenSpec.ofChange Rows.fnExactSeatLineSpec) false w args)
      (Rows.fnExactSeatLineSpec.post enc Tryd.prog Tryd.f3 false true false false) :=
  framedL (C := Tryd.checked) (tb := 4) (started := started) ownP (by kernel_rfl) Tryd.func3
    (ChangeSpec.witness_shaped (enc := enc) (C := Tryd.checked) (os := os) (X := fun w _ => laidMetH Tryd.prog Rows.fnExactSeatLineRow.laid w) false (World.laidAll Tryd.prog os Rows.fnExactSeatLineRow.laid) #[.int .i64 0, .slice none 0 0, .int .i64 0] 8 (World.laidAll_os _ _ _)
      (World.shaped_of_ZipB (by kernel_rfl) (by kernel_rfl)) (by kernel_rfl) (by kernel_rfl) (by kernel_rfl)
      (by rw [MakeChecks.laidMetH_plain _ _ _ (by kernel_rfl)]; exact laidMet_laidAll _ (by kernel_rfl) (by kernel_rfl)))
    laidOutP (by kernel_rfl) (by kernel_rfl) rfl Tryd.underlying4 rfl
    (fun ds h => by match ds, h with | [_, _, _], _ => rfl) tabOf lawSeatLine

theorem overSeatLine : Rows.FnExactSeatLineSaid :=
  OpenClaim.holds_of_wide 3 Tryd.f3 rfl rfl rfl rfl rfl rfl rfl ⟨rfl, rfl, rfl, rfl, rfl⟩ rfl rfl rfl rfl rfl (by kernel_rfl) Tryd.func3 (by kernel_rfl)
    (of_decide_eq_true (by kernel_rfl)) (by unfold Func.isWrapper; first | (rw [if_pos (by decide +kernel)]; kernel_rfl) | (rw [if_neg (by decide +kernel)]; exact ⟨rfl, rfl⟩))
    (fun os started H enc _ => liftedSeatLine os started H enc)

theorem provedSeatLine : Rows.FnExactSeatLineCardSaid :=
  Claim7.holds_tied_plain_at .later [] [.data, .data, .data] true _ _ overSeatLine (fun _ h => by cases h) (by kernel_rfl) (fun _ h => by cases h) fnExactSeatLine_row_tie rfl ⟨rfl, rfl⟩ (by kernel_rfl) rfl
    (fun f fn hf hfn => by
      obtain rfl : f = 3 := Option.some.inj ((show Tryd.prog.funcNamed "loop.example/g03202/laws.FnExactSeatLine" = some 3 by kernel_rfl).symm.trans hf) |>.symm
      obtain rfl : fn = Tryd.f3 := (Option.some.inj (Tryd.func3.symm.trans hfn)).symm
      exact ⟨by kernel_rfl, fun j t ht => by
        rw [Tryd.params3] at ht
        have hm : t ∈ [3, 22, 3] := by simpa using Array.mem_of_getElem? ht
        have hall : ([3, 22, 3].all fun u => !Tryd.prog.wantsStandIn u) = true := by kernel_rfl
        exact (show Tryd.prog.wantsStandIn t = false by simpa using List.all_eq_true.1 hall t hm)⟩)
    (by kernel_rfl)
#print axioms provedSeatLine
end Go.Proofs.YtiieikknhheffaaDoor.Ax
