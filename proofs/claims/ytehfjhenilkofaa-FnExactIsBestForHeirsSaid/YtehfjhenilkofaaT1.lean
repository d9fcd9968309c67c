/-
  What this seat's laws are handed: arguments of the types that they meet. No condition.
-/
import Derived.Test.YtehfjhenilkofaaAxFrame
import Derived.Test.YtehfjhenilkofaaF3
namespace Go.Proofs.Ytehfjhenilkofaa.Ax
open Go Go.RowKit

theorem datInts {a : AV} (h : DatE Try.prog 33 a) : ∃ nl xs, a = ints nl xs ∧ xs.length ≤ maxLen ∧ ∀ x ∈ xs, (Lit.int .i64 x).wf = true :=
  h.ints Try.underlying33 Try.underlying3 (by kernel_rfl)

theorem datLFracs {a : AV} (h : DatE Try.prog 23 a) : ∃ nl xs, a = fracs nl xs ∧ xs.length ≤ maxLen ∧ ∀ x ∈ xs, (Lit.int .i64 x.1).wf = true ∧ (Lit.int .i64 x.2).wf = true := by
  obtain ⟨nl, es, rfl, hl, hes⟩ := h.slice Try.underlying23
  obtain ⟨xs, rfl, hx⟩ := list_of (f := frac) (Q := fun x => (Lit.int .i64 x.1).wf = true ∧ (Lit.int .i64 x.2).wf = true) (fun x hx => by
    obtain ⟨p, rfl, h1, h2⟩ := (hes x hx).two Try.underlying64 Try.underlying3 Try.underlying3
    exact ⟨p, rfl, h1, h2⟩)
  exact ⟨nl, xs, by rw [show Try.prog.cellsOf 64 = 2 from by kernel_rfl]; rfl, by simpa using hl, hx⟩

end Go.Proofs.Ytehfjhenilkofaa.Ax
