/-
  What this seat's laws are handed: lists of lists of ints; facts on the program. No condition.
-/
import Derived.Test.YtehfjhenilkofaaT1
import Derived.Test.YtehfjhenilkofaaF5
import Derived.Test.YtehfjhenilkofaaRows
namespace Go.Proofs.Ytehfjhenilkofaa.Ax
open Go Go.RowKit

theorem ownP : ownKnob Try.prog.godebug = none := by kernel_rfl
theorem laidOutP : laidOutB Try.prog = true := by kernel_rfl

theorem datIntss {a : AV} (h : DatE Try.prog 22 a) : ∃ nl xss, a = intss nl xss ∧ xss.length ≤ maxLen ∧ ∀ x ∈ xss, x.2.length ≤ maxLen ∧ ∀ n ∈ x.2, (Lit.int .i64 n).wf = true := by
  obtain ⟨nl, es, rfl, hl, hes⟩ := h.slice Try.underlying22
  obtain ⟨xs, rfl, hx⟩ := list_of (f := row) (Q := fun x => x.2.length ≤ maxLen ∧ ∀ n ∈ x.2, (Lit.int .i64 n).wf = true) (fun x hx => by
    obtain ⟨nl, xs, rfl, h1, h2⟩ := datInts (hes x hx)
    exact ⟨(nl, xs), rfl, h1, h2⟩)
  exact ⟨nl, xs, by rw [show Try.prog.cellsOf 33 = 1 from by kernel_rfl]; rfl, by simpa using hl, hx⟩

end Go.Proofs.Ytehfjhenilkofaa.Ax
