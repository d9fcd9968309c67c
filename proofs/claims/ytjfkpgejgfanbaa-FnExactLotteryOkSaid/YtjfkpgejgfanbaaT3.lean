/-
  What this seat's laws are handed: lists of lists of fractions. No condition.
-/
import Derived.Test.YtjfkpgejgfanbaaT2
import Derived.Test.YtjfkpgejgfanbaaF5F
namespace Go.Proofs.Ytjfkpgejgfanbaa.Ax
open Go Go.RowKit

theorem datLFracss {a : AV} (h : DatE Try.prog 44 a) : ∃ nl xss, a = fracss nl xss ∧ xss.length ≤ maxLen ∧ ∀ x ∈ xss, x.2.length ≤ maxLen ∧ ∀ n ∈ x.2, (Lit.int .i64 n.1).wf = true ∧ (Lit.int .i64 n.2).wf = true := by
  obtain ⟨nl, es, rfl, hl, hes⟩ := h.slice Try.underlying44
  obtain ⟨xs, rfl, hx⟩ := list_of (f := frow) (Q := fun x => x.2.length ≤ maxLen ∧ ∀ n ∈ x.2, (Lit.int .i64 n.1).wf = true ∧ (Lit.int .i64 n.2).wf = true) (fun x hx => by
    obtain ⟨nl, xs, rfl, h1, h2⟩ := datLFracs (hes x hx)
    exact ⟨(nl, xs), rfl, h1, h2⟩)
  exact ⟨nl, xs, by rw [show Try.prog.cellsOf 35 = 1 from by kernel_rfl]; rfl, by simpa using hl, hx⟩

end Go.Proofs.Ytjfkpgejgfanbaa.Ax
