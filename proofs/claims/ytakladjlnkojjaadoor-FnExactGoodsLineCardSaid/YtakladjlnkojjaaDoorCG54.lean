/-
  Contracts: slices.Clone, the lists, the best award of the program. No condition.
-/
import Derived.Test.YtakladjlnkojjaaDoorCG52
import Derived.Test.YtakladjlnkojjaaDoorCG53
import Derived.Test.YtakladjlnkojjaaDoorCG4
namespace Go.Proofs.YtakladjlnkojjaaDoor.Ax
open Go Go.RowKit
set_option linter.unusedSimpArgs false

noncomputable def mClone : List AV → Option AV := mk (fun p => p.2.length ≤ 1000000) (fun (p : (Bool) × (List Int)) => [ints p.1 p.2]) (fun p => ints p.1 p.2)
theorem mClone_at (nl : Bool) (xs : List Int) (hpre : xs.length ≤ 1000000) : mClone [.sl nl 1 (xs.map int)] = some (.sl nl 1 ((xs).map int)) :=
  mk_eq (enc := fun (p : (Bool) × (List Int)) => [ints p.1 p.2]) (x := (nl, xs)) (by rintro ⟨a0, a1⟩ ⟨b0, b1⟩ h; simp [ints, intss, int, bool, row, frac, fracs, map_int_inj, map_row_inj, frac_inj, map_frac_inj] at h; simp [h]) hpre

theorem clone_ok : FnOk Tryd.prog 98 mClone := by
  refine mk_ok fun ⟨nl, xs⟩ hn => ?_
  simp only at hn
  have hG : FnsOk Tryd.prog [] := .nil
  refine callOk_awp (ctx_ok eqOk hG) mixed (live := [true, false, true, false, true]) (dt := []) Tryd.func98 rfl (by kernel_rfl) (by kernel_rfl) fun w0 hlens => ?_
  have hnil := (lens_ints.1 hlens.1).2
  clear hlens
  have h1 : xs.length ≤ 4611686018427387904 := by omega
  have h2 : xs.length * 8 ≤ 140737488355328 := by omega
  cases nl with
  | true =>
    have : xs = [] := hnil rfl
    subst this
    simp (config := {contextual := true}) [Tryd.f98, List.range, List.range.loop, ints, intss, int, bool, row, frac, fracs, ← List.map_take, ← List.map_drop, h1, h2]
  | false => simp (config := {contextual := true}) [Tryd.f98, List.range, List.range.loop, ints, intss, int, bool, row, frac, fracs, ← List.map_take, ← List.map_drop, h1, h2]

noncomputable def mLists : List AV → Option AV := mk (fun _ => True) (fun (p : Nat × Int × Int) => [int (p.1 : Int), int p.2.1, int p.2.2]) (fun p => .fn 121 [.fp (int p.2.1) 0, .fp (int (p.1 : Int)) 0, .fp (int p.2.2) 0])
theorem mLists_at (n : Nat) (low high : Int) : mLists [.v (.int .i64 (n : Int)), .v (.int .i64 low), .v (.int .i64 high)] = some (.fn 121 [.fp (.v (.int .i64 low)) 0, .fp (.v (.int .i64 (n : Int))) 0, .fp (.v (.int .i64 high)) 0]) :=
  mk_eq (enc := fun (p : Nat × Int × Int) => [int (p.1 : Int), int p.2.1, int p.2.2]) (x := (n, low, high)) (by rintro ⟨a, b, c⟩ ⟨d, e, f⟩ h; simp [int] at h; obtain ⟨h, rfl, rfl⟩ := h; exact (by omega : a = d) ▸ rfl) trivial

theorem lists_ok : FnFrz Tryd.prog 96 true mLists := by
  refine mk_frz fun ⟨n, low, high⟩ _ => ?_
  have hG : FnsOk Tryd.prog [] := .nil
  refine frzOk_awp (ctx_ok eqOk hG) mixed (live := [true, true, true, true, true, true, true]) (dt := []) Tryd.func96 rfl (by kernel_rfl) (by kernel_rfl) fun A w0 hlens => ?_
  clear hlens
  simp (config := {contextual := true}) [Tryd.f96, List.range, List.range.loop, ints, intss, int, bool, row, frac, fracs, ← List.map_take, ← List.map_drop, List.all]

end Go.Proofs.YtakladjlnkojjaaDoor.Ax
