/-
  Contracts: sums of fractions (both programs). No condition.
-/
import Derived.Test.YtiieikknhheffaaGreatDoorCB2
import Derived.Test.YtiieikknhheffaaGreatDoorCG1
namespace Go.Proofs.YtiieikknhheffaaGreatDoor.Ax
open Go Go.RowKit
set_option linter.unusedSimpArgs false

/-- A quotient in lowest terms, if it is valid (b: more than 0). -/
def mkF (t b : Int) : (Int × Int) × Bool := if fracOk (t.tdiv (Int.gcd t b), b.tdiv (Int.gcd t b)) = true then ((t.tdiv (Int.gcd t b), b.tdiv (Int.gcd t b)), true) else ((0, 0), false)
def redF (t b : Int) : (Int × Int) × Bool := if b < 0 then mkF (-t) (-b) else mkF t b

theorem tdiv_bd {x y m : Int} (h1 : -m ≤ x) (h2 : x ≤ m) : -m ≤ x.tdiv y ∧ x.tdiv y ≤ m := by
  have : (x.tdiv y).natAbs ≤ x.natAbs := by rw [Int.natAbs_tdiv]; exact Nat.div_le_self _ _
  omega
theorem gcd_bd {x y : Int} (h : y ≠ 0) : 0 < (Int.gcd x y : Int) ∧ (Int.gcd x y : Int) ≤ y.natAbs := by
  have h1 : 0 < Int.gcd x y := Int.gcd_pos_of_ne_zero_right _ h
  have h2 : Int.gcd x y ∣ y.natAbs := Nat.gcd_dvd_right _ _
  have := Nat.le_of_dvd (by omega) h2
  omega


noncomputable def mRed : List AV → Option AV := mk (fun p => -4611686018427387904 ≤ p.1 ∧ p.1 ≤ 4611686018427387904 ∧ -4611686018427387904 ≤ p.2 ∧ p.2 ≤ 4611686018427387904 ∧ p.2 ≠ 0) (fun (p : (Int) × (Int)) => [int p.1, int p.2]) (fun p => .tup [.agg [.v (.int .i64 (redF p.1 p.2).1.1), .v (.int .i64 (redF p.1 p.2).1.2)], .v (.bool (redF p.1 p.2).2)])
theorem mRed_at (t : Int) (b : Int) (hpre : -4611686018427387904 ≤ t ∧ t ≤ 4611686018427387904 ∧ -4611686018427387904 ≤ b ∧ b ≤ 4611686018427387904 ∧ b ≠ 0) : mRed [.v (.int .i64 t), .v (.int .i64 b)] = some (.tup [.agg [.v (.int .i64 (redF t b).1.1), .v (.int .i64 (redF t b).1.2)], .v (.bool (redF t b).2)]) :=
  mk_eq (enc := fun (p : (Int) × (Int)) => [int p.1, int p.2]) (x := (t, b)) (by rintro ⟨a0, a1⟩ ⟨b0, b1⟩ h; simp [ints, intss, int, bool, row, frac, fracs, map_int_inj, map_row_inj, frac_inj, map_frac_inj] at h; simp [h]) hpre

noncomputable def mMk : List AV → Option AV := mk (fun p => -4611686018427387904 ≤ p.1 ∧ p.1 ≤ 4611686018427387904 ∧ 0 < p.2 ∧ p.2 ≤ 4611686018427387904) (fun (p : (Int) × (Int)) => [int p.1, int p.2]) (fun p => .tup [.agg [.v (.int .i64 (mkF p.1 p.2).1.1), .v (.int .i64 (mkF p.1 p.2).1.2)], .v (.bool (mkF p.1 p.2).2)])
theorem mMk_at (t : Int) (b : Int) (hpre : -4611686018427387904 ≤ t ∧ t ≤ 4611686018427387904 ∧ 0 < b ∧ b ≤ 4611686018427387904) : mMk [.v (.int .i64 t), .v (.int .i64 b)] = some (.tup [.agg [.v (.int .i64 (mkF t b).1.1), .v (.int .i64 (mkF t b).1.2)], .v (.bool (mkF t b).2)]) :=
  mk_eq (enc := fun (p : (Int) × (Int)) => [int p.1, int p.2]) (x := (t, b)) (by rintro ⟨a0, a1⟩ ⟨b0, b1⟩ h; simp [ints, intss, int, bool, row, frac, fracs, map_int_inj, map_row_inj, frac_inj, map_frac_inj] at h; simp [h]) hpre

set_option maxHeartbeats 1000000 in
theorem reduced_ok : FnOk Tryz.prog 72 mRed := by
  refine mk_ok fun ⟨t, b⟩ ⟨h1, h2, h3, h4, h5⟩ => ?_
  simp only at h1 h2 h3 h4 h5
  obtain ⟨g1, g2⟩ := gcd_bd (x := t) h5
  have hg := mGcd_at (-4611686018427387904) t b h1 h2 h3 h4
  have hG : FnsOk Tryz.prog [(129, (mGcd (-4611686018427387904))), (90, mFracOk)] := (.cons gcd_ok (.cons implFractionOk_ok .nil))
  refine callOk_awp (ctx_ok eqOk hG) mixed (live := [true, true, false, false, true, true, true, true, false, false, false, false, true, false, false, false, false, false, false, false, false, false, false, false, true]) (dt := [(4, ⟨[], [0, 0, 0, 0, 0, 0, 0, 1], []⟩)]) Tryz.func72 rfl (by kernel_rfl) (by kernel_rfl) fun w0 hlens => ?_
  by_cases hb : b < 0
  · have hr : redF t b = mkF (-t) (-b) := by simp [redF, hb]
    have e1 : t.tdiv (-(Int.gcd t b : Int)) = (-t).tdiv (Int.gcd t b) := by rw [Int.tdiv_neg, Int.neg_tdiv]
    have e2 : b.tdiv (-(Int.gcd t b : Int)) = (-b).tdiv (Int.gcd t b) := by rw [Int.tdiv_neg, Int.neg_tdiv]
    have eg : Int.gcd (-t) (-b) = Int.gcd t b := by simp [Int.gcd]
    rw [hr]; unfold mkF; rw [eg]
    have w0 : IntKind.i64.wrap (-(Int.gcd t b : Int)) = -(Int.gcd t b : Int) := wrapI (by omega) (by omega)
    have w1 : IntKind.i64.wrap ((-t).tdiv (Int.gcd t b)) = (-t).tdiv (Int.gcd t b) := by have := tdiv_bd (x := -t) (y := Int.gcd t b) (m := 4611686018427387904) (by omega) (by omega); exact wrapI (by omega) (by omega)
    have w2 : IntKind.i64.wrap ((-b).tdiv (Int.gcd t b)) = (-b).tdiv (Int.gcd t b) := by have := tdiv_bd (x := -b) (y := Int.gcd t b) (m := 4611686018427387904) (by omega) (by omega); exact wrapI (by omega) (by omega)
    generalize (Int.gcd t b : Int) = g at *
    have hne : ¬ -g = 0 := by omega
    have hne' : ¬ g = 0 := by omega
    generalize (-t).tdiv g = p at *
    generalize (-b).tdiv g = q at *
    cases hf : fracOk (p, q) <;> simp (config := {contextual := true}) [Tryz.f72, List.range, List.range.loop, ints, intss, int, bool, row, frac, fracs, ← List.map_take, ← List.map_drop, hg, hb, w0, hne, hne', e1, e2, w1, w2, mFracOk_at, hf]
  · have hr : redF t b = mkF t b := by simp [redF, hb]
    rw [hr]; unfold mkF
    have w1 : IntKind.i64.wrap (t.tdiv (Int.gcd t b)) = t.tdiv (Int.gcd t b) := by have := tdiv_bd (x := t) (y := Int.gcd t b) (m := 4611686018427387904) (by omega) (by omega); exact wrapI (by omega) (by omega)
    have w2 : IntKind.i64.wrap (b.tdiv (Int.gcd t b)) = b.tdiv (Int.gcd t b) := by have := tdiv_bd (x := b) (y := Int.gcd t b) (m := 4611686018427387904) (by omega) (by omega); exact wrapI (by omega) (by omega)
    generalize (Int.gcd t b : Int) = g at *
    have hne' : ¬ g = 0 := by omega
    generalize hp1 : t.tdiv g = p at *
    generalize hq1 : b.tdiv g = q at *
    cases hf : fracOk (p, q) <;> simp (config := {contextual := true}) [Tryz.f72, List.range, List.range.loop, ints, intss, int, bool, row, frac, fracs, ← List.map_take, ← List.map_drop, hg, hb, hne', hp1, hq1, w1, w2, mFracOk_at, hf]

set_option maxHeartbeats 1000000 in
theorem l02Make_ok : FnOk Tryz.prog 176 mMk := by
  refine mk_ok fun ⟨t, b⟩ ⟨h1, h2, h3, h4⟩ => ?_
  simp only at h1 h2 h3 h4
  obtain ⟨g1, g2⟩ := gcd_bd (x := t) (show b ≠ 0 by omega)
  have hg := mGcd_at 0 (max t (-t)) b (by omega) (by omega) (by omega) h4
  rw [gcd_abs] at hg
  have wn : IntKind.i64.wrap (-t) = -t := wrapI (by omega) (by omega)
  have hG : FnsOk Tryz.prog [(137, (mGcd 0)), (76, mFracOk)] := (.cons l02Gcd_ok (.cons specFractionOk_ok .nil))
  refine callOk_awp (ctx_ok eqOk hG) mixed (live := [true, true, false, false, true, true, true, true, false, false, false, false, false, false, false, false, false, false, false, false, false, false, false, true]) (dt := [(2, ⟨[], [0, 0, 0, 0, 0, 0, 0, 1], []⟩)]) Tryz.func176 rfl (by kernel_rfl) (by kernel_rfl) fun w0 hlens => ?_
  unfold mkF
  have w1 : IntKind.i64.wrap (t.tdiv (Int.gcd t b)) = t.tdiv (Int.gcd t b) := by have := tdiv_bd (x := t) (y := Int.gcd t b) (m := 4611686018427387904) (by omega) (by omega); exact wrapI (by omega) (by omega)
  have w2 : IntKind.i64.wrap (b.tdiv (Int.gcd t b)) = b.tdiv (Int.gcd t b) := by have := tdiv_bd (x := b) (y := Int.gcd t b) (m := 4611686018427387904) (by omega) (by omega); exact wrapI (by omega) (by omega)
  generalize (Int.gcd t b : Int) = g at *
  have hne' : ¬ g = 0 := by omega
  generalize hp1 : t.tdiv g = p at *
  generalize hq1 : b.tdiv g = q at *
  cases hf : fracOk (p, q) <;> simp (config := {contextual := true}) [Tryz.f176, List.range, List.range.loop, ints, intss, int, bool, row, frac, fracs, ← List.map_take, ← List.map_drop, hg, wn, hne', hp1, hq1, w1, w2, mFracOk_at, hf]

noncomputable def mTwo : List AV → Option AV := mk (fun _ => True) (fun (p : (Int) × (Int) × (Int) × (Int)) => [frac (p.1, p.2.1), frac (p.2.2.1, p.2.2.2)]) (fun p => bool (fracOk (p.1, p.2.1) && fracOk (p.2.2.1, p.2.2.2)))
theorem mTwo_at (a : Int) (b : Int) (c : Int) (d : Int) : mTwo [.agg [.v (.int .i64 a), .v (.int .i64 b)], .agg [.v (.int .i64 c), .v (.int .i64 d)]] = some (.v (.bool (fracOk (a, b) && fracOk (c, d)))) :=
  mk_eq (enc := fun (p : (Int) × (Int) × (Int) × (Int)) => [frac (p.1, p.2.1), frac (p.2.2.1, p.2.2.2)]) (x := (a, b, c, d)) (by rintro ⟨a0, a1, a2, a3⟩ ⟨b0, b1, b2, b3⟩ h; simp [ints, intss, int, bool, row, frac, fracs, map_int_inj, map_row_inj, frac_inj, map_frac_inj] at h; simp [h]) trivial
theorem l02Two_ok : FnOk Tryz.prog 175 mTwo := by
  refine mk_ok fun ⟨a, b, c, d⟩ _ => ?_
  have hG : FnsOk Tryz.prog [(76, mFracOk)] := (.cons specFractionOk_ok .nil)
  refine callOk_awp (ctx_ok eqOk hG) mixed (live := [true, true, true, true, true]) (dt := []) Tryz.func175 rfl (by kernel_rfl) (by kernel_rfl) fun w0 hlens => ?_
  cases h1 : fracOk (a, b) <;> simp (config := {contextual := true}) [Tryz.f175, List.range, List.range.loop, ints, intss, int, bool, row, frac, fracs, ← List.map_take, ← List.map_drop, mFracOk_at, h1]

/-- The sum of two fractions, and whether it is valid. -/
def addF (x y : Int × Int) : (Int × Int) × Bool := if fracOk x && fracOk y then mkF (x.1 * y.2 + y.1 * x.2) (x.2 * y.2) else ((0, 0), false)
noncomputable def mAdd : List AV → Option AV := mk (fun _ => True) (fun (p : (Int) × (Int) × (Int) × (Int)) => [frac (p.1, p.2.1), frac (p.2.2.1, p.2.2.2)]) (fun p => .tup [.agg [.v (.int .i64 (addF (p.1, p.2.1) (p.2.2.1, p.2.2.2)).1.1), .v (.int .i64 (addF (p.1, p.2.1) (p.2.2.1, p.2.2.2)).1.2)], .v (.bool (addF (p.1, p.2.1) (p.2.2.1, p.2.2.2)).2)])
theorem mAdd_at (a : Int) (b : Int) (c : Int) (d : Int) : mAdd [.agg [.v (.int .i64 a), .v (.int .i64 b)], .agg [.v (.int .i64 c), .v (.int .i64 d)]] = some (.tup [.agg [.v (.int .i64 (addF (a, b) (c, d)).1.1), .v (.int .i64 (addF (a, b) (c, d)).1.2)], .v (.bool (addF (a, b) (c, d)).2)]) :=
  mk_eq (enc := fun (p : (Int) × (Int) × (Int) × (Int)) => [frac (p.1, p.2.1), frac (p.2.2.1, p.2.2.2)]) (x := (a, b, c, d)) (by rintro ⟨a0, a1, a2, a3⟩ ⟨b0, b1, b2, b3⟩ h; simp [ints, intss, int, bool, row, frac, fracs, map_int_inj, map_row_inj, frac_inj, map_frac_inj] at h; simp [h]) trivial

theorem fracOk_bd {x : Int × Int} (h : fracOk x = true) : -1000000000 ≤ x.1 ∧ x.1 ≤ 1000000000 ∧ 1 ≤ x.2 ∧ x.2 ≤ 1000000000 := by
  simp only [fracOk, Bool.and_eq_true, decide_eq_true_eq] at h; omega
theorem mul_bd {x y m n : Int} (h1 : -m ≤ x) (h2 : x ≤ m) (h3 : -n ≤ y) (h4 : y ≤ n) : -(m * n) ≤ x * y ∧ x * y ≤ m * n := by
  have hx : (x.natAbs : Int) ≤ m := by omega
  have hy : (y.natAbs : Int) ≤ n := by omega
  have : (x * y).natAbs = x.natAbs * y.natAbs := Int.natAbs_mul _ _
  have h5 : (x.natAbs : Int) * y.natAbs ≤ m * n := Int.mul_le_mul hx hy (by omega) (by omega)
  have h6 : ((x * y).natAbs : Int) = (x.natAbs : Int) * y.natAbs := by rw [this]; simp
  omega
theorem mul_pos1 {x y : Int} (h1 : 1 ≤ x) (h2 : 1 ≤ y) : 0 < x * y := Int.mul_pos (by omega) (by omega)

set_option maxHeartbeats 2000000 in
theorem implAdd_ok : FnOk Tryz.prog 136 mAdd := by
  refine mk_ok fun ⟨a, b, c, d⟩ _ => ?_
  have hG : FnsOk Tryz.prog [(90, mFracOk), (72, mRed)] := (.cons implFractionOk_ok (.cons reduced_ok .nil))
  refine callOk_awp (ctx_ok eqOk hG) mixed (live := [true, true, true, true, true, true, false, false, false, false, false, false, false, true]) (dt := []) Tryz.func136 rfl (by kernel_rfl) (by kernel_rfl) fun w0 hlens => ?_
  cases h1 : fracOk (a, b) with
  | false => simp (config := {contextual := true}) [Tryz.f136, List.range, List.range.loop, ints, intss, int, bool, row, frac, fracs, ← List.map_take, ← List.map_drop, mFracOk_at, mTwo_at, h1, addF]
  | true =>
  cases h2 : fracOk (c, d) with
  | false => simp (config := {contextual := true}) [Tryz.f136, List.range, List.range.loop, ints, intss, int, bool, row, frac, fracs, ← List.map_take, ← List.map_drop, mFracOk_at, mTwo_at, h1, h2, addF]
  | true =>
  have b1 := fracOk_bd h1
  have b2 := fracOk_bd h2
  simp only at b1 b2
  have m1 := mul_bd (x := a) (y := d) (m := 1000000000) (n := 1000000000) (by omega) (by omega) (by omega) (by omega)
  have m2 := mul_bd (x := c) (y := b) (m := 1000000000) (n := 1000000000) (by omega) (by omega) (by omega) (by omega)
  have m3 := mul_bd (x := b) (y := d) (m := 1000000000) (n := 1000000000) (by omega) (by omega) (by omega) (by omega)
  have p3 := mul_pos1 (x := b) (y := d) (by omega) (by omega)
  have ha : addF (a, b) (c, d) = mkF (a * d + c * b) (b * d) := by simp [addF, h1, h2]
  rw [ha]
  have w1 : IntKind.i64.wrap (a * d) = a * d := wrapI (by omega) (by omega)
  have w2 : IntKind.i64.wrap (c * b) = c * b := wrapI (by omega) (by omega)
  have w3 : IntKind.i64.wrap (b * d) = b * d := wrapI (by omega) (by omega)
  have w4 : IntKind.i64.wrap (a * d + c * b) = a * d + c * b := wrapI (by omega) (by omega)
  have hz := mMk_at (a * d + c * b) (b * d) ⟨by omega, by omega, by omega, by omega⟩
  have hz2 := mRed_at (a * d + c * b) (b * d) ⟨by omega, by omega, by omega, by omega, by omega⟩
  have hrr : redF (a * d + c * b) (b * d) = mkF (a * d + c * b) (b * d) := by unfold redF; rw [if_neg (by omega)]
  rw [hrr] at hz2
  simp (config := {contextual := true}) [Tryz.f136, List.range, List.range.loop, ints, intss, int, bool, row, frac, fracs, ← List.map_take, ← List.map_drop, mFracOk_at, mTwo_at, h1, h2, w1, w2, w3, w4, hz, hz2]

set_option maxHeartbeats 2000000 in
theorem specAdd_ok : FnOk Tryz.prog 138 mAdd := by
  refine mk_ok fun ⟨a, b, c, d⟩ _ => ?_
  have hG : FnsOk Tryz.prog [(175, mTwo), (176, mMk)] := (.cons l02Two_ok (.cons l02Make_ok .nil))
  refine callOk_awp (ctx_ok eqOk hG) mixed (live := [true, true, true, true, true, true, false, false, false, true]) (dt := []) Tryz.func138 rfl (by kernel_rfl) (by kernel_rfl) fun w0 hlens => ?_
  cases h1 : fracOk (a, b) with
  | false => simp (config := {contextual := true}) [Tryz.f138, List.range, List.range.loop, ints, intss, int, bool, row, frac, fracs, ← List.map_take, ← List.map_drop, mFracOk_at, mTwo_at, h1, addF]
  | true =>
  cases h2 : fracOk (c, d) with
  | false => simp (config := {contextual := true}) [Tryz.f138, List.range, List.range.loop, ints, intss, int, bool, row, frac, fracs, ← List.map_take, ← List.map_drop, mFracOk_at, mTwo_at, h1, h2, addF]
  | true =>
  have b1 := fracOk_bd h1
  have b2 := fracOk_bd h2
  simp only at b1 b2
  have m1 := mul_bd (x := a) (y := d) (m := 1000000000) (n := 1000000000) (by omega) (by omega) (by omega) (by omega)
  have m2 := mul_bd (x := c) (y := b) (m := 1000000000) (n := 1000000000) (by omega) (by omega) (by omega) (by omega)
  have m3 := mul_bd (x := b) (y := d) (m := 1000000000) (n := 1000000000) (by omega) (by omega) (by omega) (by omega)
  have p3 := mul_pos1 (x := b) (y := d) (by omega) (by omega)
  have ha : addF (a, b) (c, d) = mkF (a * d + c * b) (b * d) := by simp [addF, h1, h2]
  rw [ha]
  have w1 : IntKind.i64.wrap (a * d) = a * d := wrapI (by omega) (by omega)
  have w2 : IntKind.i64.wrap (c * b) = c * b := wrapI (by omega) (by omega)
  have w3 : IntKind.i64.wrap (b * d) = b * d := wrapI (by omega) (by omega)
  have w4 : IntKind.i64.wrap (a * d + c * b) = a * d + c * b := wrapI (by omega) (by omega)
  have hz := mMk_at (a * d + c * b) (b * d) ⟨by omega, by omega, by omega, by omega⟩
  have hz2 := mRed_at (a * d + c * b) (b * d) ⟨by omega, by omega, by omega, by omega, by omega⟩
  have hrr : redF (a * d + c * b) (b * d) = mkF (a * d + c * b) (b * d) := by unfold redF; rw [if_neg (by omega)]
  rw [hrr] at hz2
  simp (config := {contextual := true}) [Tryz.f138, List.range, List.range.loop, ints, intss, int, bool, row, frac, fracs, ← List.map_take, ← List.map_drop, mFracOk_at, mTwo_at, h1, h2, w1, w2, w3, w4, hz, hz2]

theorem addF_ok {x y : Int × Int} (h : (addF x y).2 = false) : addF x y = ((0, 0), false) := by
  unfold addF mkF at h ⊢
  split
  · rename_i h1
    rw [if_pos h1] at h
    split
    · rename_i h2; rw [if_pos h2] at h; simp at h
    · rfl
  · rfl

/-- The sum of the first k fractions, and whether all sums up to there are valid. -/
def sumTo (fs : List (Int × Int)) : Nat → (Int × Int) × Bool
  | 0 => ((0, 1), true)
  | k + 1 => if (sumTo fs k).2 = true then addF (sumTo fs k).1 (fs.getD k (0, 0)) else ((0, 0), false)
def sumF (fs : List (Int × Int)) : (Int × Int) × Bool := if 100 < fs.length then ((0, 0), false) else sumTo fs fs.length
theorem sumTo_false {fs : List (Int × Int)} {k : Nat} (h : (sumTo fs k).2 = false) : ∀ n, k ≤ n → (sumTo fs n) = ((0, 0), false) ∨ (n = k ∧ (sumTo fs n).2 = false)
  | 0, hn => by
    have : k = 0 := by omega
    subst this; exact .inr ⟨rfl, h⟩
  | n + 1, hn => by
    by_cases e : k = n + 1
    · subst e; exact .inr ⟨rfl, h⟩
    · rcases sumTo_false h n (by omega) with h1 | ⟨_, h1⟩
      · left; rw [sumTo, h1]; simp
      · left; rw [sumTo, h1]; simp
theorem sumTo_bad {fs : List (Int × Int)} {k n : Nat} (hk : 0 < k) (h : (sumTo fs k).2 = false) (hn : k ≤ n) : sumTo fs n = ((0, 0), false) := by
  rcases sumTo_false h n hn with h1 | ⟨rfl, _⟩
  · exact h1
  · obtain ⟨m, rfl⟩ : ∃ m, n = m + 1 := ⟨n - 1, by omega⟩
    rw [sumTo] at h ⊢
    split
    · rename_i h1; rw [if_pos h1] at h; exact addF_ok h
    · rfl

noncomputable def mSumF : List AV → Option AV := mk (fun _ => True) (fun (p : (Bool) × (List (Int × Int))) => [fracs p.1 p.2]) (fun p => .tup [.agg [.v (.int .i64 (sumF p.2).1.1), .v (.int .i64 (sumF p.2).1.2)], .v (.bool (sumF p.2).2)])
theorem mSumF_at (nl : Bool) (fs : List (Int × Int)) : mSumF [.sl nl 2 (fs.map frac)] = some (.tup [.agg [.v (.int .i64 (sumF fs).1.1), .v (.int .i64 (sumF fs).1.2)], .v (.bool (sumF fs).2)]) :=
  mk_eq (enc := fun (p : (Bool) × (List (Int × Int))) => [fracs p.1 p.2]) (x := (nl, fs)) (by rintro ⟨a0, a1⟩ ⟨b0, b1⟩ h; simp [ints, intss, int, bool, row, frac, fracs, map_int_inj, map_row_inj, frac_inj, map_frac_inj] at h; simp [h]) trivial

set_option maxHeartbeats 2000000 in
theorem implSumF_ok : FnOk Tryz.prog 91 mSumF := by
  refine mk_ok fun ⟨nl, fs⟩ _ => ?_
  have hG : FnsOk Tryz.prog [(134, mWhole), (136, mAdd)] := (.cons whole_ok (.cons implAdd_ok .nil))
  refine callOk_awp (ctx_ok eqOk hG) mixed (live := [true, false, true, true, true, true, false, true, false, false, true, false, false, true, true, true, true, false, false, false, false, false, false, false, false, false, true]) (dt := []) Tryz.func91 rfl (by kernel_rfl) (by kernel_rfl) fun w0 hlens => ?_
  have hll : fs.length ≤ 9223372036854775807 := (lens_fracs.1 hlens.1).1
  clear hlens
  by_cases h1 : 100 < fs.length
  · have h1' : (100 : Int) < (fs.length : Int) := by omega
    simp (config := {contextual := true}) [Tryz.f91, List.range, List.range.loop, ints, intss, int, bool, row, frac, fracs, ← List.map_take, ← List.map_drop, h1, h1', sumF]
  have h1' : ¬ (100 : Int) < (fs.length : Int) := by omega
  have hs : sumF fs = sumTo fs fs.length := by simp [sumF, h1]
  rw [hs]
  generalize hr : sumTo fs fs.length = r
  simp (config := {contextual := true}) [Tryz.f91, List.range, List.range.loop, ints, intss, int, bool, row, frac, fracs, ← List.map_take, ← List.map_drop, h1, h1', mWhole_at]
  refine awp_range (live := [true, false, true, true, true, true, false, true, false, false, true, false, false, true, true, true, true, false, false, false, false, false, false, false, false, false, true]) (ctx_ok eqOk hG) mixed [false, false, true, false, true, false, false, false, false, false, false, false, false, true, true, true] (fs.length) (fun k => (sumTo fs k).2 = true) (fun k => ⟨[.junk, .junk, .ptr 0 [] 0 0, .junk, .ptr 1 [] 0 0, .junk, .junk, .junk, .junk, .junk, .junk, .junk, .junk, fracs nl fs, int fs.length, int k, .junk, .junk, .junk, .junk, .junk, .junk, .junk, .junk, .junk, .junk, .junk, .junk, .junk, .junk], [⟨true, .sl false 2 [frac (0, 0)]⟩, ⟨true, .sl false 2 [frac (sumTo fs k).1]⟩]⟩) ?_ (by simp [sub, slotsLe, clean, keep, refsL, refs, once, place, renL, ren, List.replicate, int, bool, fracs, frac, sumTo]) ?_ ?_ ?_
  · exact hll
  · rfl
  · intro k h hp hwk
    have e : sumTo fs (k + 1) = addF (sumTo fs k).1 fs[k] := by rw [sumTo, if_pos hp]; congr 1; simp [List.getD_eq_getElem?_getD, h]
    have hbad : (sumTo fs (k + 1)).2 = false → r = ((0, 0), false) := fun hb => by rw [← hr]; exact sumTo_bad (by omega) hb (by omega)
    generalize sumTo fs k = x at *
    generalize sumTo fs (k + 1) = y at *
    obtain ⟨⟨x1, x2⟩, xb⟩ := x
    obtain ⟨⟨y1, y2⟩, yb⟩ := y
    have ha := mAdd_at x1 x2 fs[k].1 fs[k].2
    rw [show ((fs[k].1, fs[k].2) : Int × Int) = fs[k] from rfl] at ha
    simp only at e
    rw [← e] at ha
    simp only at ha hbad
    cases yb with
    | true =>
      simp (config := {contextual := true}) [List.range, List.range.loop, ints, intss, int, bool, row, frac, fracs, ← List.map_take, ← List.map_drop, h, hwk, ha]
    | false =>
      rw [hbad rfl]
      simp (config := {contextual := true}) [List.range, List.range.loop, ints, intss, int, bool, row, frac, fracs, ← List.map_take, ← List.map_drop, h, hwk, ha]
  · intro hp
    rw [hr] at hp
    obtain ⟨⟨r1, r2⟩, rb⟩ := r
    simp only at hp
    subst hp
    simp (config := {contextual := true}) [List.range, List.range.loop, ints, intss, int, bool, row, frac, fracs, ← List.map_take, ← List.map_drop, hr]

set_option maxHeartbeats 2000000 in
theorem specSumF_ok : FnOk Tryz.prog 77 mSumF := by
  refine mk_ok fun ⟨nl, fs⟩ _ => ?_
  have hG : FnsOk Tryz.prog [(138, mAdd)] := (.cons specAdd_ok .nil)
  refine callOk_awp (ctx_ok eqOk hG) mixed (live := [true, false, true, true, true, false, true, true, true, false, false, true, false, false, true, true, true, true, false, false, false, false, false, false, false, false, false, true]) (dt := []) Tryz.func77 rfl (by kernel_rfl) (by kernel_rfl) fun w0 hlens => ?_
  have hll : fs.length ≤ 9223372036854775807 := (lens_fracs.1 hlens.1).1
  clear hlens
  by_cases h1 : 100 < fs.length
  · have h1' : (100 : Int) < (fs.length : Int) := by omega
    simp (config := {contextual := true}) [Tryz.f77, List.range, List.range.loop, ints, intss, int, bool, row, frac, fracs, ← List.map_take, ← List.map_drop, h1, h1', sumF]
  have h1' : ¬ (100 : Int) < (fs.length : Int) := by omega
  have hs : sumF fs = sumTo fs fs.length := by simp [sumF, h1]
  rw [hs]
  generalize hr : sumTo fs fs.length = r
  simp (config := {contextual := true}) [Tryz.f77, List.range, List.range.loop, ints, intss, int, bool, row, frac, fracs, ← List.map_take, ← List.map_drop, h1, h1', mWhole_at]
  refine awp_range (live := [true, false, true, true, true, false, true, true, true, false, false, true, false, false, true, true, true, true, false, false, false, false, false, false, false, false, false, true]) (ctx_ok eqOk hG) mixed [false, false, true, false, true, false, false, false, false, false, false, false, false, false, true, true, true] (fs.length) (fun k => (sumTo fs k).2 = true) (fun k => ⟨[.junk, .junk, .ptr 0 [] 0 0, .junk, .ptr 1 [] 0 0, .junk, .junk, .junk, .junk, .junk, .junk, .junk, .junk, .junk, fracs nl fs, int fs.length, int k, .junk, .junk, .junk, .junk, .junk, .junk, .junk, .junk, .junk, .junk, .junk, .junk, .junk, .junk, .junk], [⟨true, .sl false 2 [frac (0, 0)]⟩, ⟨true, .sl false 2 [frac (sumTo fs k).1]⟩]⟩) ?_ (by simp [sub, slotsLe, clean, keep, refsL, refs, once, place, renL, ren, List.replicate, int, bool, fracs, frac, sumTo]) ?_ ?_ ?_
  · exact hll
  · rfl
  · intro k h hp hwk
    have e : sumTo fs (k + 1) = addF (sumTo fs k).1 fs[k] := by rw [sumTo, if_pos hp]; congr 1; simp [List.getD_eq_getElem?_getD, h]
    have hbad : (sumTo fs (k + 1)).2 = false → r = ((0, 0), false) := fun hb => by rw [← hr]; exact sumTo_bad (by omega) hb (by omega)
    generalize sumTo fs k = x at *
    generalize sumTo fs (k + 1) = y at *
    obtain ⟨⟨x1, x2⟩, xb⟩ := x
    obtain ⟨⟨y1, y2⟩, yb⟩ := y
    have ha := mAdd_at x1 x2 fs[k].1 fs[k].2
    rw [show ((fs[k].1, fs[k].2) : Int × Int) = fs[k] from rfl] at ha
    simp only at e
    rw [← e] at ha
    simp only at ha hbad
    cases yb with
    | true =>
      simp (config := {contextual := true}) [List.range, List.range.loop, ints, intss, int, bool, row, frac, fracs, ← List.map_take, ← List.map_drop, h, hwk, ha]
    | false =>
      rw [hbad rfl]
      simp (config := {contextual := true}) [List.range, List.range.loop, ints, intss, int, bool, row, frac, fracs, ← List.map_take, ← List.map_drop, h, hwk, ha]
  · intro hp
    rw [hr] at hp
    obtain ⟨⟨r1, r2⟩, rb⟩ := r
    simp only at hp
    subst hp
    simp (config := {contextual := true}) [List.range, List.range.loop, ints, intss, int, bool, row, frac, fracs, ← List.map_take, ← List.map_drop, hr]

end Go.Proofs.YtiieikknhheffaaGreatDoor.Ax

/-
  Plain laws on fractions: parts of 1, differences, products, the points of an heir. No condition.
-/
namespace Go.Proofs.YtiieikknhheffaaGreatDoor.Ax
open Go Go.RowKit
set_option linter.unusedSimpArgs false

theorem fracOk_gcd {t b : Int} (h : fracOk (t, b) = true) : Int.gcd t b = 1 := by
  simp only [fracOk, Bool.and_eq_true, decide_eq_true_eq] at h; exact h.2
theorem part_facts {t b : Int} (h : partB (t, b) = true) : fracOk (t, b) = true ∧ 0 ≤ t ∧ t ≤ b ∧ 1 ≤ b ∧ b ≤ 1000000000 := by
  simp only [partB, inR, Bool.and_eq_true, decide_eq_true_eq] at h
  have := fracOk_bd h.1
  simp only at this
  exact ⟨h.1, h.2.1, h.2.2, by omega, by omega⟩
theorem part_zero {t b : Int} (h : partB (t, b) = true) : (t = 0 ∧ b = 1) ↔ ¬ 0 < t := by
  obtain ⟨h1, h2, h3, h4, h5⟩ := part_facts h
  have hg := fracOk_gcd h1
  constructor
  · rintro ⟨rfl, rfl⟩; omega
  · intro hn
    have : t = 0 := by omega
    subst this
    rw [Int.gcd_zero_left] at hg
    exact ⟨rfl, by omega⟩
theorem part_one {t b : Int} (h : partB (t, b) = true) : (t = 1 ∧ b = 1) ↔ ¬ t < b := by
  obtain ⟨h1, h2, h3, h4, h5⟩ := part_facts h
  have hg := fracOk_gcd h1
  constructor
  · rintro ⟨rfl, rfl⟩; omega
  · intro hn
    have : t = b := by omega
    subst this
    rw [Int.gcd_self] at hg
    exact ⟨by omega, by omega⟩

theorem mkF_self {t b : Int} (h : fracOk (t, b) = true) : mkF t b = ((t, b), true) := by
  unfold mkF
  rw [fracOk_gcd h]
  simp [h]
theorem fracOk_mk {t b : Int} (h1 : -1000000000 ≤ t) (h2 : t ≤ 1000000000) (h3 : 1 ≤ b) (h4 : b ≤ 1000000000) (h : Int.gcd t b = 1) : fracOk (t, b) = true := by
  simp [fracOk, h1, h2, h3, h4, h]
theorem fracOk_neg {t b : Int} : fracOk (-t, b) = fracOk (t, b) := by
  rw [Bool.eq_iff_iff]
  simp only [fracOk, Bool.and_eq_true, decide_eq_true_eq, Int.neg_gcd]
  constructor <;> rintro ⟨⟨⟨h1, h2⟩, h3⟩, h4⟩ <;> exact ⟨⟨⟨by omega, by omega⟩, h3⟩, h4⟩
/-- The difference of two fractions, and whether it is valid. -/
def subF (x y : Int × Int) : (Int × Int) × Bool := addF x (-y.1, y.2)
theorem sub_part {t b : Int} (h : partB (t, b) = true) : subF (1, 1) (t, b) = ((b - t, b), true) ∧ partB (b - t, b) = true := by
  obtain ⟨h1, h2, h3, h4, h5⟩ := part_facts h
  have hg := fracOk_gcd h1
  have hg2 : Int.gcd (b - t) b = 1 := by
    rw [Int.gcd_self_sub_left]; exact hg
  have hok := fracOk_mk (t := b - t) (b := b) (by omega) (by omega) h4 h5 hg2
  refine ⟨?_, by simp only [partB, hok, inR]; simp; omega⟩
  unfold subF addF
  have e1 : fracOk (1, 1) = true := by decide
  have e2 : fracOk (-t, b) = true := by rw [fracOk_neg]; exact h1
  simp only [e1, e2, Bool.and_true, if_true]
  rw [show 1 * b + -t * 1 = b - t by omega, show 1 * b = b by omega]
  exact mkF_self hok

/-- The product of two fractions, and whether it is valid. -/
def mulF (x y : Int × Int) : (Int × Int) × Bool := if fracOk x && fracOk y then mkF (x.1 * y.1) (x.2 * y.2) else ((0, 0), false)
theorem mulF_no {x y : Int × Int} (h : (mulF x y).2 = false) : mulF x y = ((0, 0), false) := by
  unfold mulF mkF at h ⊢
  split
  · rename_i h1
    rw [if_pos h1] at h
    split
    · rename_i h2; rw [if_pos h2] at h; simp at h
    · rfl
  · rfl

/-- -1, 0, 1 as two fractions compare; -2 if one is not valid. -/
def cmpF (x y : Int × Int) : Int := if fracOk x && fracOk y then (if x.1 * y.2 < y.1 * x.2 then -1 else if y.1 * x.2 < x.1 * y.2 then 1 else 0) else -2

/-- An heir's part of a thing, from the first heir's part. -/
def turnF (who : Int) (f : Int × Int) : Int × Int := if who = 1 then (f.2 - f.1, f.2) else f
/-- The points of an heir for the first k things, and whether all sums up to there are valid. -/
def heirTo (xss : List (Bool × List Int)) (fs : List (Int × Int)) (who : Int) : Nat → (Int × Int) × Bool
  | 0 => ((0, 1), true)
  | k + 1 => if (heirTo xss fs who k).2 && (mulF (ent xss who.toNat k, 1) (turnF who (fs.getD k (0, 0)))).2 then addF (heirTo xss fs who k).1 (mulF (ent xss who.toNat k, 1) (turnF who (fs.getD k (0, 0)))).1 else ((0, 0), false)
def heirF (xss : List (Bool × List Int)) (fs : List (Int × Int)) (who : Int) : (Int × Int) × Bool := if sharesB xss fs && inR 0 1 who then heirTo xss fs who fs.length else ((0, 0), false)
theorem heirTo_false {xss : List (Bool × List Int)} {fs : List (Int × Int)} {who : Int} {k : Nat} (h : (heirTo xss fs who k).2 = false) : ∀ n, k < n → heirTo xss fs who n = ((0, 0), false)
  | 0, hn => by omega
  | n + 1, hn => by
    by_cases e : k = n
    · subst e; rw [heirTo, h]; simp
    · rw [heirTo, heirTo_false h n (by omega)]; simp
theorem heirTo_bad {xss : List (Bool × List Int)} {fs : List (Int × Int)} {who : Int} {k n : Nat} (hk : 0 < k) (h : (heirTo xss fs who k).2 = false) (hn : k ≤ n) : heirTo xss fs who n = ((0, 0), false) := by
  by_cases e : k = n
  · subst e
    obtain ⟨m, rfl⟩ : ∃ m, k = m + 1 := ⟨k - 1, by omega⟩
    rw [heirTo] at h ⊢
    split
    · rename_i h1; rw [if_pos h1] at h; exact addF_ok h
    · rfl
  · exact heirTo_false h n (by omega)

/-- Whether a swap of things x and y (x given, y taken) is no gain. -/
def bestAt (xss : List (Bool × List Int)) (fs : List (Int × Int)) (x y : Nat) : Bool :=
  !(decide (0 < (fs.getD x (0, 0)).1) && decide ((fs.getD y (0, 0)).1 < (fs.getD y (0, 0)).2) && decide (ent xss 0 x * ent xss 1 y < ent xss 0 y * ent xss 1 x))
def bestRow (xss : List (Bool × List Int)) (fs : List (Int × Int)) (x : Nat) : Bool := allR fs.length (bestAt xss fs x)
def bestHB (xss : List (Bool × List Int)) (fs : List (Int × Int)) : Bool := sharesB xss fs && allR fs.length (bestRow xss fs)

theorem shares_facts {xss : List (Bool × List Int)} {fs : List (Int × Int)} (h : sharesB xss fs = true) : xss.length = 2 ∧ rectB xss 2 6 100 = true ∧ fs.length = wid xss ∧ ∀ k (hk : k < fs.length), partB fs[k] = true := by
  simp only [sharesB, Bool.and_eq_true, decide_eq_true_eq, List.all_eq_true] at h
  obtain ⟨⟨h1, h2⟩, h3⟩ := h
  obtain ⟨h4, h5⟩ := points_facts h1
  exact ⟨h4, h5, h2, fun k hk => h3 _ (List.getElem_mem _)⟩
theorem ent_mul {xss : List (Bool × List Int)} (h : rectB xss 2 6 100 = true) {i j : Nat} (hi : i < xss.length) (hj : j < xss.length) {x y : Nat} (hx : x < wid xss) (hy : y < wid xss) : 0 ≤ ent xss i x * ent xss j y ∧ ent xss i x * ent xss j y ≤ 10000 := by
  have h1 := ent_bd h hi hx
  have h2 := ent_bd h hj hy
  refine ⟨Int.mul_nonneg h1.1 h2.1, ?_⟩
  have := Int.mul_le_mul h1.2 h2.2 h2.1 (by omega : (0 : Int) ≤ 100)
  omega

end Go.Proofs.YtiieikknhheffaaGreatDoor.Ax

/-
  Contracts: products, differences of fractions (both programs). No condition.
-/
namespace Go.Proofs.YtiieikknhheffaaGreatDoor.Ax
open Go Go.RowKit
set_option linter.unusedSimpArgs false

noncomputable def mTimes : List AV → Option AV := mk (fun _ => True) (fun (p : (Int) × (Int) × (Int) × (Int)) => [frac (p.1, p.2.1), frac (p.2.2.1, p.2.2.2)]) (fun p => .tup [.agg [.v (.int .i64 (mulF (p.1, p.2.1) (p.2.2.1, p.2.2.2)).1.1), .v (.int .i64 (mulF (p.1, p.2.1) (p.2.2.1, p.2.2.2)).1.2)], .v (.bool (mulF (p.1, p.2.1) (p.2.2.1, p.2.2.2)).2)])
theorem mTimes_at (a : Int) (b : Int) (c : Int) (d : Int) : mTimes [.agg [.v (.int .i64 a), .v (.int .i64 b)], .agg [.v (.int .i64 c), .v (.int .i64 d)]] = some (.tup [.agg [.v (.int .i64 (mulF (a, b) (c, d)).1.1), .v (.int .i64 (mulF (a, b) (c, d)).1.2)], .v (.bool (mulF (a, b) (c, d)).2)]) :=
  mk_eq (enc := fun (p : (Int) × (Int) × (Int) × (Int)) => [frac (p.1, p.2.1), frac (p.2.2.1, p.2.2.2)]) (x := (a, b, c, d)) (by rintro ⟨a0, a1, a2, a3⟩ ⟨b0, b1, b2, b3⟩ h; simp [ints, intss, int, bool, row, frac, fracs, map_int_inj, map_row_inj, frac_inj, map_frac_inj] at h; simp [h]) trivial

noncomputable def mMinus : List AV → Option AV := mk (fun p => fracOk (p.2.2.1, p.2.2.2) = true) (fun (p : (Int) × (Int) × (Int) × (Int)) => [frac (p.1, p.2.1), frac (p.2.2.1, p.2.2.2)]) (fun p => .tup [.agg [.v (.int .i64 (subF (p.1, p.2.1) (p.2.2.1, p.2.2.2)).1.1), .v (.int .i64 (subF (p.1, p.2.1) (p.2.2.1, p.2.2.2)).1.2)], .v (.bool (subF (p.1, p.2.1) (p.2.2.1, p.2.2.2)).2)])
theorem mMinus_at (a : Int) (b : Int) (c : Int) (d : Int) (hpre : fracOk (c, d) = true) : mMinus [.agg [.v (.int .i64 a), .v (.int .i64 b)], .agg [.v (.int .i64 c), .v (.int .i64 d)]] = some (.tup [.agg [.v (.int .i64 (subF (a, b) (c, d)).1.1), .v (.int .i64 (subF (a, b) (c, d)).1.2)], .v (.bool (subF (a, b) (c, d)).2)]) :=
  mk_eq (enc := fun (p : (Int) × (Int) × (Int) × (Int)) => [frac (p.1, p.2.1), frac (p.2.2.1, p.2.2.2)]) (x := (a, b, c, d)) (by rintro ⟨a0, a1, a2, a3⟩ ⟨b0, b1, b2, b3⟩ h; simp [ints, intss, int, bool, row, frac, fracs, map_int_inj, map_row_inj, frac_inj, map_frac_inj] at h; simp [h]) hpre
theorem minus_ok : FnOk Tryz.prog 88 mMinus := by
  refine mk_ok fun ⟨a, b, c, d⟩ h => ?_
  have hb := fracOk_bd h
  simp only at hb
  have w1 : IntKind.i64.wrap (-c) = -c := wrapI (by omega) (by omega)
  have hG : FnsOk Tryz.prog [(136, mAdd)] := (.cons implAdd_ok .nil)
  refine callOk_awp (ctx_ok eqOk hG) mixed (live := [true, true, true, true, true, true]) (dt := []) Tryz.func88 rfl (by kernel_rfl) (by kernel_rfl) fun w0 hlens => ?_
  simp (config := {contextual := true}) [Tryz.f88, List.range, List.range.loop, ints, intss, int, bool, row, frac, fracs, ← List.map_take, ← List.map_drop, mAdd_at, subF, w1]

end Go.Proofs.YtiieikknhheffaaGreatDoor.Ax

/-
  Contracts: the worth of an award, what a person's pieces are worth (both programs). No condition.
-/
namespace Go.Proofs.YtiieikknhheffaaGreatDoor.Ax
open Go Go.RowKit
set_option linter.unusedSimpArgs false

theorem ent_get {xss : List (Bool × List Int)} {i : Nat} (hi : i < xss.length) {k : Int} (hk : k.toNat < xss[i].2.length) : xss[i].2[k.toNat]? = some (ent xss i k) := by
  unfold ent; simp [List.getD_eq_getElem?_getD, hi, hk]

/-- The worth of the first k things of an award. -/
def awTo (xss : List (Bool × List Int)) (aw : List Int) : Nat → Int
  | 0 => 0
  | k + 1 => if 0 ≤ aw.getD k 0 then IntKind.i64.wrap (awTo xss aw k + ent xss k (aw.getD k 0)) else awTo xss aw k

noncomputable def mAwW : List AV → Option AV := mk (fun p => p.2.2.2.length ≤ p.2.1.length ∧ ∀ i, i < p.2.2.2.length → p.2.2.2.getD i 0 < ((p.2.1.getD i (true, [])).2.length : Int)) (fun (p : (Bool) × (List (Bool × List Int)) × (Bool) × (List Int)) => [intss p.1 p.2.1, ints p.2.2.1 p.2.2.2]) (fun p => int (awTo p.2.1 p.2.2.2 p.2.2.2.length))
theorem mAwW_at (nl : Bool) (xss : List (Bool × List Int)) (nl' : Bool) (aw : List Int) (hpre : aw.length ≤ xss.length ∧ ∀ i, i < aw.length → aw.getD i 0 < ((xss.getD i (true, [])).2.length : Int)) : mAwW [.sl nl 1 (xss.map row), .sl nl' 1 (aw.map int)] = some (.v (.int .i64 (awTo xss aw aw.length))) :=
  mk_eq (enc := fun (p : (Bool) × (List (Bool × List Int)) × (Bool) × (List Int)) => [intss p.1 p.2.1, ints p.2.2.1 p.2.2.2]) (x := (nl, xss, nl', aw)) (by rintro ⟨a0, a1, a2, a3⟩ ⟨b0, b1, b2, b3⟩ h; simp [ints, intss, int, bool, row, frac, fracs, map_int_inj, map_row_inj, frac_inj, map_frac_inj] at h; simp [h]) hpre

theorem awW_pre {xss : List (Bool × List Int)} {aw : List Int} (h : awardB xss aw = true) : aw.length ≤ xss.length ∧ ∀ i, i < aw.length → aw.getD i 0 < ((xss.getD i (true, [])).2.length : Int) := by
  simp only [awardB, Bool.and_eq_true, decide_eq_true_eq] at h
  obtain ⟨⟨⟨h1, h2⟩, h3⟩, _⟩ := h
  refine ⟨by omega, fun i hi => ?_⟩
  have := (allIn_at h3 hi).2
  have hr := (rect_row h1 (i := i) (by omega)).1
  rw [getD_at hi, List.getD_eq_getElem?_getD, List.getElem?_eq_getElem (by omega)]
  simp only [Option.getD_some]; omega

noncomputable def mAwWorth : List AV → Option AV := mk (fun _ => True) (fun (p : (Bool) × (List (Bool × List Int)) × (Bool) × (List Int)) => [intss p.1 p.2.1, ints p.2.2.1 p.2.2.2]) (fun p => int (if awardB p.2.1 p.2.2.2 = true then awTo p.2.1 p.2.2.2 p.2.2.2.length else -1))
theorem mAwWorth_at (nl : Bool) (xss : List (Bool × List Int)) (nl' : Bool) (aw : List Int) : mAwWorth [.sl nl 1 (xss.map row), .sl nl' 1 (aw.map int)] = some (.v (.int .i64 (if awardB xss aw = true then awTo xss aw aw.length else -1))) :=
  mk_eq (enc := fun (p : (Bool) × (List (Bool × List Int)) × (Bool) × (List Int)) => [intss p.1 p.2.1, ints p.2.2.1 p.2.2.2]) (x := (nl, xss, nl', aw)) (by rintro ⟨a0, a1, a2, a3⟩ ⟨b0, b1, b2, b3⟩ h; simp [ints, intss, int, bool, row, frac, fracs, map_int_inj, map_row_inj, frac_inj, map_frac_inj] at h; simp [h]) trivial

end Go.Proofs.YtiieikknhheffaaGreatDoor.Ax

/-
  Contracts: divisions of a strip, what goods are worth to a person, the envy of pieces (both programs). No condition.
-/
namespace Go.Proofs.YtiieikknhheffaaGreatDoor.Ax
open Go Go.RowKit
set_option linter.unusedSimpArgs false

/-- What the first m goods are worth to person i, of those that k gets. -/
def woTo (xss : List (Bool × List Int)) (l : List Int) (i : Nat) (k : Int) : Nat → Int
  | 0 => 0
  | m + 1 => if l.getD m 0 = k then IntKind.i64.wrap (woTo xss l i k m + ent xss i m) else woTo xss l i k m
def wo (xss : List (Bool × List Int)) (l : List Int) (i : Nat) (k : Int) : Int := woTo xss l i k l.length

noncomputable def mWorth : List AV → Option AV := mk (fun p => 0 ≤ p.2.2.2.2.1 ∧ p.2.2.2.2.1.toNat < p.2.1.length ∧ p.2.2.2.1.length ≤ (p.2.1.getD p.2.2.2.2.1.toNat (true, [])).2.length) (fun (p : (Bool) × (List (Bool × List Int)) × (Bool) × (List Int) × (Int) × (Int)) => [intss p.1 p.2.1, ints p.2.2.1 p.2.2.2.1, int p.2.2.2.2.1, int p.2.2.2.2.2]) (fun p => int (wo p.2.1 p.2.2.2.1 p.2.2.2.2.1.toNat p.2.2.2.2.2))
theorem mWorth_at (nl : Bool) (xss : List (Bool × List Int)) (nl' : Bool) (l : List Int) (i : Int) (k : Int) (hpre : 0 ≤ i ∧ i.toNat < xss.length ∧ l.length ≤ (xss.getD i.toNat (true, [])).2.length) : mWorth [.sl nl 1 (xss.map row), .sl nl' 1 (l.map int), .v (.int .i64 i), .v (.int .i64 k)] = some (.v (.int .i64 (wo xss l i.toNat k))) :=
  mk_eq (enc := fun (p : (Bool) × (List (Bool × List Int)) × (Bool) × (List Int) × (Int) × (Int)) => [intss p.1 p.2.1, ints p.2.2.1 p.2.2.2.1, int p.2.2.2.2.1, int p.2.2.2.2.2]) (x := (nl, xss, nl', l, i, k)) (by rintro ⟨a0, a1, a2, a3, a4, a5⟩ ⟨b0, b1, b2, b3, b4, b5⟩ h; simp [ints, intss, int, bool, row, frac, fracs, map_int_inj, map_row_inj, frac_inj, map_frac_inj] at h; simp [h]) hpre

noncomputable def mEnvy : List AV → Option AV := mk (fun p => 0 ≤ p.2.2.2.2.1 ∧ p.2.2.2.2.1.toNat < p.2.1.length ∧ p.2.2.2.1.length ≤ (p.2.1.getD p.2.2.2.2.1.toNat (true, [])).2.length) (fun (p : (Bool) × (List (Bool × List Int)) × (Bool) × (List Int) × (Int) × (Int)) => [intss p.1 p.2.1, ints p.2.2.1 p.2.2.2.1, int p.2.2.2.2.1, int p.2.2.2.2.2]) (fun p => int (max 0 (IntKind.i64.wrap (wo p.2.1 p.2.2.2.1 p.2.2.2.2.1.toNat p.2.2.2.2.2 - wo p.2.1 p.2.2.2.1 p.2.2.2.2.1.toNat p.2.2.2.2.1))))
theorem mEnvy_at (nl : Bool) (xss : List (Bool × List Int)) (nl' : Bool) (l : List Int) (i : Int) (k : Int) (hpre : 0 ≤ i ∧ i.toNat < xss.length ∧ l.length ≤ (xss.getD i.toNat (true, [])).2.length) : mEnvy [.sl nl 1 (xss.map row), .sl nl' 1 (l.map int), .v (.int .i64 i), .v (.int .i64 k)] = some (.v (.int .i64 (max 0 (IntKind.i64.wrap (wo xss l i.toNat k - wo xss l i.toNat i))))) :=
  mk_eq (enc := fun (p : (Bool) × (List (Bool × List Int)) × (Bool) × (List Int) × (Int) × (Int)) => [intss p.1 p.2.1, ints p.2.2.1 p.2.2.2.1, int p.2.2.2.2.1, int p.2.2.2.2.2]) (x := (nl, xss, nl', l, i, k)) (by rintro ⟨a0, a1, a2, a3, a4, a5⟩ ⟨b0, b1, b2, b3, b4, b5⟩ h; simp [ints, intss, int, bool, row, frac, fracs, map_int_inj, map_row_inj, frac_inj, map_frac_inj] at h; simp [h]) hpre

/-- Place i of a list is the first of its owner's, or stands behind one of the same owner's. -/
def divAt (l : List Int) (i : Nat) : Bool := (decide (i ≠ 0) && decide (l.getD (i - 1) 0 = l.getD i 0)) || !decide (0 ≤ pos (l.take i) (l.getD i 0))
def divB (xss : List (Bool × List Int)) (l : List Int) : Bool := rectB xss 3 10 100 && decide (l.length = wid xss) && allIn 0 (xss.length - 1) l && allR l.length (divAt l)

theorem divAt_zero {l : List Int} : divAt l 0 = true := by simp [divAt, pos, posFrom]

noncomputable def mDiv : List AV → Option AV := mk (fun _ => True) (fun (p : (Bool) × (List (Bool × List Int)) × (Bool) × (List Int)) => [intss p.1 p.2.1, ints p.2.2.1 p.2.2.2]) (fun p => bool (divB p.2.1 p.2.2.2))
theorem mDiv_at (nl : Bool) (xss : List (Bool × List Int)) (nl' : Bool) (l : List Int) : mDiv [.sl nl 1 (xss.map row), .sl nl' 1 (l.map int)] = some (.v (.bool (divB xss l))) :=
  mk_eq (enc := fun (p : (Bool) × (List (Bool × List Int)) × (Bool) × (List Int)) => [intss p.1 p.2.1, ints p.2.2.1 p.2.2.2]) (x := (nl, xss, nl', l)) (by rintro ⟨a0, a1, a2, a3⟩ ⟨b0, b1, b2, b3⟩ h; simp [ints, intss, int, bool, row, frac, fracs, map_int_inj, map_row_inj, frac_inj, map_frac_inj] at h; simp [h]) trivial

end Go.Proofs.YtiieikknhheffaaGreatDoor.Ax
