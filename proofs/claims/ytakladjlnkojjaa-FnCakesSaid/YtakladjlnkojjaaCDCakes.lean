/-
  PROVED: FnCakes returns true for all codes, and its argument reads as it did. No condition.
-/
import Derived.Test.YtakladjlnkojjaaRows
import Derived.Test.YtakladjlnkojjaaCB1
import Derived.Test.YtakladjlnkojjaaCG12
namespace Go.Proofs.Ytakladjlnkojjaa.Ax
open Go Go.RowKit Go.ChangeShapes Go.WideShapes Go.ChangeAt

theorem datByts {a : AV} (h : DatE Try.prog 22 a) : ∃ nl xs, a = byts nl xs ∧ xs.length ≤ maxLen := by
  obtain ⟨nl, es, rfl, hl, hes⟩ := h.slice Try.underlying22
  obtain ⟨xs, rfl, _⟩ := list_of (f := bAV) (Q := fun _ => True) (fun x hx => by
    obtain ⟨n, rfl, _⟩ := (hes x hx).int Try.underlying5
    exact ⟨n, rfl, trivial⟩)
  exact ⟨nl, xs, by rw [show Try.prog.cellsOf 5 = 1 from by kernel_rfl]; rfl, by simpa using hl⟩

theorem lawCakes : ∀ l, DatL Try.prog Try.f5.params.toList l → CallOk Try.prog 5 l (.v (.bool true)) := by
  intro l h
  rw [Try.params5] at h
  obtain ⟨b0, _, rfl, hb0, rfl⟩ := h
  obtain ⟨n0, x0, rfl, _⟩ := datByts hb0
  exact fnCakes_call

set_option maxRecDepth 100000 in
theorem liftedCakes (os : Os) (started : os.Started) (H : Type) (enc : TypeId × Value → H) :
    ReturnsInHanded {} Try.checked os 5 .any (Rows.fnCakesSpec.pre6 enc Try.prog Try.f5 Rows.fnCakesRow.domain false) (Rows.fnCakesSpec.post enc Try.prog Try.f5 false true false false) :=
  framed (C := Try.checked) (tb := 4) (started := started) ownP (by kernel_rfl) Try.func5
    (ChangeSpec.witness6 (enc := enc) (C := Try.checked) false ⟨#[], #[.slice none 0 0], []⟩ 8 (by kernel_rfl) (by kernel_rfl) (by kernel_rfl) (by kernel_rfl))
    laidOutP (by kernel_rfl) (by kernel_rfl) rfl Try.underlying4 rfl
    (fun ds h => by match ds, h with | [_], _ => rfl) (by kernel_rfl) lawCakes

theorem overCakes : Rows.fnCakesRow.holds Try.pinned (OpenSpec.ofChange Rows.fnCakesSpec) :=
  OpenClaim.holds_of_wide 5 Try.f5 rfl rfl rfl rfl rfl rfl rfl ⟨rfl, rfl, rfl, rfl, rfl⟩ rfl rfl rfl rfl rfl (by kernel_rfl) Try.func5 (by kernel_rfl)
    (of_decide_eq_true (by kernel_rfl)) (by unfold Func.isWrapper; first | (rw [if_pos (by decide +kernel)]; kernel_rfl) | (rw [if_neg (by decide +kernel)]; exact ⟨rfl, rfl⟩))
    (fun os started H enc _ => liftedCakes os started H enc)

theorem provedFnCakes : Rows.FnCakesSaid := overCakes
#print axioms provedFnCakes
end Go.Proofs.Ytakladjlnkojjaa.Ax
