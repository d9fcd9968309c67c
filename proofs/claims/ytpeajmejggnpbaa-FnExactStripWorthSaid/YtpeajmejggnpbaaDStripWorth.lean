/-
  PROVED: FnExactStripWorth returns true for all arguments, and its argument reads as it did. No condition.
-/
import Derived.Test.YtpeajmejggnpbaaRows
import Derived.Test.YtpeajmejggnpbaaT2
import Derived.Test.YtpeajmejggnpbaaLStripWorth
namespace Go.Proofs.Ytpeajmejggnpbaa.Ax
open Go Go.RowKit Go.ChangeShapes Go.WideShapes Go.ChangeAt

theorem lawStripWorth : ∀ l, DatL Try.prog Try.f8.params.toList l → CallOk Try.prog 8 l (.v (.bool true)) := by
  intro l h
  rw [Try.params8] at h
  obtain ⟨a, _, rfl, ha, b0, _, rfl, hb0, b1, _, rfl, hb1, b2, _, rfl, hb2, rfl⟩ := h
  obtain ⟨nl, xss, rfl, hl, hr⟩ := datIntss ha
  obtain ⟨x1, rfl, _⟩ := hb0.int Try.underlying3
  obtain ⟨x2, rfl, _⟩ := hb1.int Try.underlying3
  obtain ⟨x3, rfl, _⟩ := hb2.int Try.underlying3
  exact law_StripWorth nl xss (by simp only [maxLen] at hl; omega) (fun x hx => by have := (hr x hx).1; simp only [maxLen] at this; omega) x1 x2 x3

set_option maxRecDepth 100000 in
theorem liftedStripWorth (os : Os) (started : os.Started) (H : Type) (enc : TypeId × Value → H) :
    ReturnsInHanded {} Try.checked os 8 .any (Rows.fnExactStripWorthSpec.pre6 enc Try.prog Try.f8 Rows.fnExactStripWorthRow.domain false) (Rows.fnExactStripWorthSpec.post enc Try.prog Try.f8 false true false false) :=
  framed (C := Try.checked) (tb := 4) (started := started) ownP (by kernel_rfl) Try.func8
    (ChangeSpec.witness6 (enc := enc) (C := Try.checked) false ⟨#[], #[.slice none 0 0, .int .i64 0, .int .i64 0, .int .i64 0], []⟩ 8 (by kernel_rfl) (by kernel_rfl) (by kernel_rfl) (by kernel_rfl))
    laidOutP (by kernel_rfl) (by kernel_rfl) rfl Try.underlying4 rfl
    (fun ds h => by match ds, h with | [_, _, _, _], _ => rfl) lawStripWorth

theorem overStripWorth : Rows.fnExactStripWorthRow.holds Try.pinned (OpenSpec.ofChange Rows.fnExactStripWorthSpec) :=
  OpenClaim.holds_of_wide 8 Try.f8 rfl rfl rfl rfl rfl rfl rfl ⟨rfl, rfl, rfl, rfl, rfl⟩ rfl rfl rfl rfl rfl (by kernel_rfl) Try.func8 (by kernel_rfl)
    (of_decide_eq_true (by kernel_rfl)) (by unfold Func.isWrapper; first | (rw [if_pos (by decide +kernel)]; kernel_rfl) | (rw [if_neg (by decide +kernel)]; exact ⟨rfl, rfl⟩))
    (fun os started H enc _ => liftedStripWorth os started H enc)

theorem provedStripWorth : Rows.FnExactStripWorthSaid := overStripWorth
#print axioms provedStripWorth
end Go.Proofs.Ytpeajmejggnpbaa.Ax
