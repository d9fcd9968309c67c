/-
  Contracts: slices.Clone, the lists, the best award of the program. No condition.
-/
import Derived.Test.YtkfgmpmeipilnaaCG52
import Derived.Test.YtkfgmpmeipilnaaCG53
import Derived.Test.YtkfgmpmeipilnaaCG4
namespace Go.Proofs.Ytkfgmpmeipilnaa.Ax
open Go Go.RowKit
set_option linter.unusedSimpArgs false

noncomputable def mClone : List AV → Option AV := mk (fun p => p.2.length ≤ 1000000) (fun (p : (Bool) × (List Int)) => [ints p.1 p.2]) (fun p => ints p.1 p.2)
theorem mClone_at (nl : Bool) (xs : List Int) (hpre : xs.length ≤ 1000000) : mClone [.sl nl 1 (xs.map int)] = some (.sl nl 1 ((xs).map int)) :=
  mk_eq (enc := fun (p : (Bool) × (List Int)) => [ints p.1 p.2]) (x := (nl, xs)) (by rintro ⟨a0, a1⟩ ⟨b0, b1⟩ h; simp [ints, intss, int, bool, row, frac, fracs, map_int_inj, map_row_inj, frac_inj, map_frac_inj] at h; simp [h]) hpre

theorem clone_ok : FnOk Try.prog 133 mClone := by
  refine mk_ok fun ⟨nl, xs⟩ hn => ?_
  simp only at hn
  have hG : FnsOk Try.prog [] := .nil
  refine callOk_awp (ctx_ok eqOk hG) mixed (live := [true, false, true, false, true]) (dt := []) Try.func133 rfl (by kernel_rfl) (by kernel_rfl) fun w0 hlens => ?_
  have hnil := (lens_ints.1 hlens.1).2
  clear hlens
  have h1 : xs.length ≤ 4611686018427387904 := by omega
  have h2 : xs.length * 8 ≤ 140737488355328 := by omega
  cases nl with
  | true =>
    have : xs = [] := hnil rfl
    subst this
    simp (config := {contextual := true}) [Try.f133, List.range, List.range.loop, ints, intss, int, bool, row, frac, fracs, ← List.map_take, ← List.map_drop, h1, h2]
  | false => simp (config := {contextual := true}) [Try.f133, List.range, List.range.loop, ints, intss, int, bool, row, frac, fracs, ← List.map_take, ← List.map_drop, h1, h2]

end Go.Proofs.Ytkfgmpmeipilnaa.Ax
