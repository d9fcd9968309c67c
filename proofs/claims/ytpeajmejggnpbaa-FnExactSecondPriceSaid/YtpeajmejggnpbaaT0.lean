/-
  What this seat's program says of the types that the proofs meet. No condition.
-/
import Derived.Test.YtpeajmejggnpbaaAxType
import Derived.Test.YtpeajmejggnpbaaProg
namespace Go.Proofs.Ytpeajmejggnpbaa.Ax
open Go Go.RowKit

theorem tInt : tyOf Try.prog 3 = some ⟨.int .i64, 1, 8, .int .i64 0⟩ := by kernel_rfl
theorem tBool : tyOf Try.prog 4 = some ⟨.bool, 1, 1, .bool false⟩ := by kernel_rfl
theorem tInts : tyOf Try.prog 29 = some ⟨.slice 3, 1, 24, .slice none 0 0⟩ := by kernel_rfl
theorem tIntss : tyOf Try.prog 35 = some ⟨.slice 29, 1, 24, .slice none 0 0⟩ := by kernel_rfl
theorem tFrac : tyOf Try.prog 43 = some ⟨.struct #[⟨"Top", 3, 0, false, "", "", 0⟩, ⟨"Bottom", 3, 1, false, "", "", 8⟩], 2, 16, .agg #[.int .i64 0, .int .i64 0]⟩ := by kernel_rfl
theorem tLFrac : tyOf Try.prog 46 = some ⟨.struct #[⟨"Top", 3, 0, false, "", "", 0⟩, ⟨"Bottom", 3, 1, false, "", "", 8⟩], 2, 16, .agg #[.int .i64 0, .int .i64 0]⟩ := by kernel_rfl
theorem tFracs : tyOf Try.prog 25 = some ⟨.slice 43, 1, 24, .slice none 0 0⟩ := by kernel_rfl
theorem tLFracs : tyOf Try.prog 22 = some ⟨.slice 46, 1, 24, .slice none 0 0⟩ := by kernel_rfl

/-- The structs of plain ints that are compared. -/
def eqT : TypeId → Option Nat := fun t => if t = 43 then some 2 else none
theorem eqOk : ∀ t n, eqT t = some n → EqOk Try.prog t n := by
  intro t n h
  unfold eqT at h
  split at h
  · rename_i e; subst e
    simp only [Option.some.injEq] at h; subst h
    exact eqOk_two (by kernel_rfl) (by kernel_rfl) Try.underlying3 Try.underlying43 (by decide) (by decide)
  · simp at h

theorem mixed : Try.prog.follows .mixedOrders = true := by kernel_rfl

end Go.Proofs.Ytpeajmejggnpbaa.Ax
