/-
  Contracts: products, differences of fractions (both programs). No condition.
-/
import Derived.Test.YtkfgmpmeipilnaaCG30
namespace Go.Proofs.Ytkfgmpmeipilnaa.Ax
open Go Go.RowKit
set_option linter.unusedSimpArgs false

noncomputable def mTimes : List AV → Option AV := mk (fun _ => True) (fun (p : (Int) × (Int) × (Int) × (Int)) => [frac (p.1, p.2.1), frac (p.2.2.1, p.2.2.2)]) (fun p => .tup [.agg [.v (.int .i64 (mulF (p.1, p.2.1) (p.2.2.1, p.2.2.2)).1.1), .v (.int .i64 (mulF (p.1, p.2.1) (p.2.2.1, p.2.2.2)).1.2)], .v (.bool (mulF (p.1, p.2.1) (p.2.2.1, p.2.2.2)).2)])
theorem mTimes_at (a : Int) (b : Int) (c : Int) (d : Int) : mTimes [.agg [.v (.int .i64 a), .v (.int .i64 b)], .agg [.v (.int .i64 c), .v (.int .i64 d)]] = some (.tup [.agg [.v (.int .i64 (mulF (a, b) (c, d)).1.1), .v (.int .i64 (mulF (a, b) (c, d)).1.2)], .v (.bool (mulF (a, b) (c, d)).2)]) :=
  mk_eq (enc := fun (p : (Int) × (Int) × (Int) × (Int)) => [frac (p.1, p.2.1), frac (p.2.2.1, p.2.2.2)]) (x := (a, b, c, d)) (by rintro ⟨a0, a1, a2, a3⟩ ⟨b0, b1, b2, b3⟩ h; simp [ints, intss, int, bool, row, frac, fracs, map_int_inj, map_row_inj, frac_inj, map_frac_inj] at h; simp [h]) trivial

noncomputable def mMinus : List AV → Option AV := mk (fun p => fracOk (p.2.2.1, p.2.2.2) = true) (fun (p : (Int) × (Int) × (Int) × (Int)) => [frac (p.1, p.2.1), frac (p.2.2.1, p.2.2.2)]) (fun p => .tup [.agg [.v (.int .i64 (subF (p.1, p.2.1) (p.2.2.1, p.2.2.2)).1.1), .v (.int .i64 (subF (p.1, p.2.1) (p.2.2.1, p.2.2.2)).1.2)], .v (.bool (subF (p.1, p.2.1) (p.2.2.1, p.2.2.2)).2)])
theorem mMinus_at (a : Int) (b : Int) (c : Int) (d : Int) (hpre : fracOk (c, d) = true) : mMinus [.agg [.v (.int .i64 a), .v (.int .i64 b)], .agg [.v (.int .i64 c), .v (.int .i64 d)]] = some (.tup [.agg [.v (.int .i64 (subF (a, b) (c, d)).1.1), .v (.int .i64 (subF (a, b) (c, d)).1.2)], .v (.bool (subF (a, b) (c, d)).2)]) :=
  mk_eq (enc := fun (p : (Int) × (Int) × (Int) × (Int)) => [frac (p.1, p.2.1), frac (p.2.2.1, p.2.2.2)]) (x := (a, b, c, d)) (by rintro ⟨a0, a1, a2, a3⟩ ⟨b0, b1, b2, b3⟩ h; simp [ints, intss, int, bool, row, frac, fracs, map_int_inj, map_row_inj, frac_inj, map_frac_inj] at h; simp [h]) hpre
theorem minus_ok : FnOk Try.prog 81 mMinus := by
  refine mk_ok fun ⟨a, b, c, d⟩ h => ?_
  have hb := fracOk_bd h
  simp only at hb
  have w1 : IntKind.i64.wrap (-c) = -c := wrapI (by omega) (by omega)
  have hG : FnsOk Try.prog [(107, mAdd)] := (.cons implAdd_ok .nil)
  refine callOk_awp (ctx_ok eqOk hG) mixed (live := [true, true, true, true, true, true]) (dt := []) Try.func81 rfl (by kernel_rfl) (by kernel_rfl) fun w0 hlens => ?_
  simp (config := {contextual := true}) [Try.f81, List.range, List.range.loop, ints, intss, int, bool, row, frac, fracs, ← List.map_take, ← List.map_drop, mAdd_at, subF, w1]

end Go.Proofs.Ytkfgmpmeipilnaa.Ax
