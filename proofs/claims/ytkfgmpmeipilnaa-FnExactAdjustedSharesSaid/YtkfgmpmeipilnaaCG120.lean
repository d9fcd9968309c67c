/-
  Contract: FractionOf behind a divisor above 0 (the reference). No condition.
-/
import Derived.Test.YtkfgmpmeipilnaaCG10
namespace Go.Proofs.Ytkfgmpmeipilnaa.Ax
open Go Go.RowKit
set_option linter.unusedSimpArgs false

noncomputable def mFOf : List AV → Option AV := mk (fun p => -1000000000000000000 ≤ p.1 ∧ p.1 ≤ 1000000000000000000 ∧ 1 ≤ p.2 ∧ p.2 ≤ 1000000000000000000) (fun (p : (Int) × (Int)) => [int p.1, int p.2]) (fun p => .tup [.agg [.v (.int .i64 (mkF p.1 p.2).1.1), .v (.int .i64 (mkF p.1 p.2).1.2)], .v (.bool (mkF p.1 p.2).2)])
theorem mFOf_at (t : Int) (b : Int) (hpre : -1000000000000000000 ≤ t ∧ t ≤ 1000000000000000000 ∧ 1 ≤ b ∧ b ≤ 1000000000000000000) : mFOf [.v (.int .i64 t), .v (.int .i64 b)] = some (.tup [.agg [.v (.int .i64 (mkF t b).1.1), .v (.int .i64 (mkF t b).1.2)], .v (.bool (mkF t b).2)]) :=
  mk_eq (enc := fun (p : (Int) × (Int)) => [int p.1, int p.2]) (x := (t, b)) (by rintro ⟨a0, a1⟩ ⟨b0, b1⟩ h; simp [ints, intss, int, bool, row, frac, fracs, map_int_inj, map_row_inj, frac_inj, map_frac_inj] at h; simp [h]) hpre
set_option maxHeartbeats 1000000 in
theorem fractionOf_ok : FnOk Try.prog 75 mFOf := by
  refine mk_ok fun ⟨t, b⟩ ⟨h1, h2, h3, h4⟩ => ?_
  simp only at h1 h2 h3 h4
  obtain ⟨g1, g2⟩ := gcd_bd (x := t) (show b ≠ 0 by omega)
  have hg := mGcd_at 0 (max t (-t)) b (by omega) (by omega) (by omega) (by omega)
  rw [gcd_abs] at hg
  have wn : IntKind.i64.wrap (-t) = -t := wrapI (by omega) (by omega)
  have i1 : inR (-1000000000000000000) 1000000000000000000 t = true := by simp [inR]; omega
  have i2 : inR (-1000000000000000000) 1000000000000000000 b = true := by simp [inR]; omega
  have i3 : ¬ b = 0 := by omega
  have i4 : ¬ b < 0 := by omega
  have hG : FnsOk Try.prog [(56, mWithin), (108, (mGcd 0)), (58, mFracOk)] := (.cons l01In_ok (.cons l02Gcd_ok (.cons specFractionOk_ok .nil)))
  refine callOk_awp (ctx_ok eqOk hG) mixed (live := [true, true, false, false, true, true, true, true, false, false, false, false, false, false, false, false, false, false, false, true, false, false, true, false, false, false, false, false, false, false, false, false, false, false, false, false, false, false, false, false, false, false, true]) (dt := [(7, ⟨[], [0, 0, 0, 0, 0, 0, 0, 1], []⟩)]) Try.func75 rfl (by kernel_rfl) (by kernel_rfl) fun w0 hlens => ?_
  unfold mkF
  have w1 : IntKind.i64.wrap (t.tdiv (Int.gcd t b)) = t.tdiv (Int.gcd t b) := by have := tdiv_bd (x := t) (y := Int.gcd t b) (m := 4611686018427387904) (by omega) (by omega); exact wrapI (by omega) (by omega)
  have w2 : IntKind.i64.wrap (b.tdiv (Int.gcd t b)) = b.tdiv (Int.gcd t b) := by have := tdiv_bd (x := b) (y := Int.gcd t b) (m := 4611686018427387904) (by omega) (by omega); exact wrapI (by omega) (by omega)
  generalize (Int.gcd t b : Int) = g at *
  have hne' : ¬ g = 0 := by omega
  generalize hp1 : t.tdiv g = p at *
  generalize hq1 : b.tdiv g = q at *
  cases hf : fracOk (p, q) <;> simp (config := {contextual := true}) [Try.f75, List.range, List.range.loop, ints, intss, int, bool, row, frac, fracs, ← List.map_take, ← List.map_drop, mWithin_in, i1, i2, i3, i4, hg, wn, hne', hp1, hq1, w1, w2, mFracOk_at, hf]


end Go.Proofs.Ytkfgmpmeipilnaa.Ax
