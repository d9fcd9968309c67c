/-
  Contracts: sums of fractions (both programs). No condition.
-/
import Derived.Test.YtlkgppincgpfjaaDoorCB2
import Derived.Test.YtlkgppincgpfjaaDoorCB3
import Derived.Test.YtlkgppincgpfjaaDoorCG1
namespace Go.Proofs.YtlkgppincgpfjaaDoor.Ax
open Go Go.RowKit
set_option linter.unusedSimpArgs false

/-- A quotient in lowest terms, if it is valid (b: more than 0). -/
def mkF (t b : Int) : (Int × Int) × Bool := if fracOk (t.tdiv (Int.gcd t b), b.tdiv (Int.gcd t b)) = true then ((t.tdiv (Int.gcd t b), b.tdiv (Int.gcd t b)), true) else ((0, 0), false)
def redF (t b : Int) : (Int × Int) × Bool := if b < 0 then mkF (-t) (-b) else mkF t b

theorem tdiv_bd {x y m : Int} (h1 : -m ≤ x) (h2 : x ≤ m) : -m ≤ x.tdiv y ∧ x.tdiv y ≤ m := by
  have : (x.tdiv y).natAbs ≤ x.natAbs := by rw [Int.natAbs_tdiv]; exact Nat.div_le_self _ _
  omega
theorem gcd_bd {x y : Int} (h : y ≠ 0) : 0 < (Int.gcd x y : Int) ∧ (Int.gcd x y : Int) ≤ y.natAbs := by
  have h1 : 0 < Int.gcd x y := Int.gcd_pos_of_ne_zero_right _ h
  have h2 : Int.gcd x y ∣ y.natAbs := Nat.gcd_dvd_right _ _
  have := Nat.le_of_dvd (by omega) h2
  omega


noncomputable def mRed : List AV → Option AV := mk (fun p => -4611686018427387904 ≤ p.1 ∧ p.1 ≤ 4611686018427387904 ∧ -4611686018427387904 ≤ p.2 ∧ p.2 ≤ 4611686018427387904 ∧ p.2 ≠ 0) (fun (p : (Int) × (Int)) => [int p.1, int p.2]) (fun p => .tup [.agg [.v (.int .i64 (redF p.1 p.2).1.1), .v (.int .i64 (redF p.1 p.2).1.2)], .v (.bool (redF p.1 p.2).2)])
theorem mRed_at (t : Int) (b : Int) (hpre : -4611686018427387904 ≤ t ∧ t ≤ 4611686018427387904 ∧ -4611686018427387904 ≤ b ∧ b ≤ 4611686018427387904 ∧ b ≠ 0) : mRed [.v (.int .i64 t), .v (.int .i64 b)] = some (.tup [.agg [.v (.int .i64 (redF t b).1.1), .v (.int .i64 (redF t b).1.2)], .v (.bool (redF t b).2)]) :=
  mk_eq (enc := fun (p : (Int) × (Int)) => [int p.1, int p.2]) (x := (t, b)) (by rintro ⟨a0, a1⟩ ⟨b0, b1⟩ h; simp [ints, intss, int, bool, row, frac, fracs, map_int_inj, map_row_inj, frac_inj, map_frac_inj] at h; simp [h]) hpre

noncomputable def mMk : List AV → Option AV := mk (fun p => -4611686018427387904 ≤ p.1 ∧ p.1 ≤ 4611686018427387904 ∧ 0 < p.2 ∧ p.2 ≤ 4611686018427387904) (fun (p : (Int) × (Int)) => [int p.1, int p.2]) (fun p => .tup [.agg [.v (.int .i64 (mkF p.1 p.2).1.1), .v (.int .i64 (mkF p.1 p.2).1.2)], .v (.bool (mkF p.1 p.2).2)])
theorem mMk_at (t : Int) (b : Int) (hpre : -4611686018427387904 ≤ t ∧ t ≤ 4611686018427387904 ∧ 0 < b ∧ b ≤ 4611686018427387904) : mMk [.v (.int .i64 t), .v (.int .i64 b)] = some (.tup [.agg [.v (.int .i64 (mkF t b).1.1), .v (.int .i64 (mkF t b).1.2)], .v (.bool (mkF t b).2)]) :=
  mk_eq (enc := fun (p : (Int) × (Int)) => [int p.1, int p.2]) (x := (t, b)) (by rintro ⟨a0, a1⟩ ⟨b0, b1⟩ h; simp [ints, intss, int, bool, row, frac, fracs, map_int_inj, map_row_inj, frac_inj, map_frac_inj] at h; simp [h]) hpre

set_option maxHeartbeats 1000000 in
theorem reduced_ok : FnOk Tryd.prog 71 mRed := by
  refine mk_ok fun ⟨t, b⟩ ⟨h1, h2, h3, h4, h5⟩ => ?_
  simp only at h1 h2 h3 h4 h5
  obtain ⟨g1, g2⟩ := gcd_bd (x := t) h5
  have hg := mGcd_at (-4611686018427387904) t b h1 h2 h3 h4
  have hG : FnsOk Tryd.prog [(104, (mGcd (-4611686018427387904))), (105, mFracOk)] := (.cons gcd_ok (.cons implFractionOk_ok .nil))
  refine callOk_awp (ctx_ok eqOk hG) mixed (live := [true, true, false, false, true, true, true, true, false, false, false, false, true, false, false, false, false, false, false, false, false, false, false, false, true]) (dt := [(4, ⟨[], [0, 0, 0, 0, 0, 0, 0, 1], []⟩)]) Tryd.func71 rfl (by kernel_rfl) (by kernel_rfl) fun w0 hlens => ?_
  by_cases hb : b < 0
  · have hr : redF t b = mkF (-t) (-b) := by simp [redF, hb]
    have e1 : t.tdiv (-(Int.gcd t b : Int)) = (-t).tdiv (Int.gcd t b) := by rw [Int.tdiv_neg, Int.neg_tdiv]
    have e2 : b.tdiv (-(Int.gcd t b : Int)) = (-b).tdiv (Int.gcd t b) := by rw [Int.tdiv_neg, Int.neg_tdiv]
    have eg : Int.gcd (-t) (-b) = Int.gcd t b := by simp [Int.gcd]
    rw [hr]; unfold mkF; rw [eg]
    have w0 : IntKind.i64.wrap (-(Int.gcd t b : Int)) = -(Int.gcd t b : Int) := wrapI (by omega) (by omega)
    have w1 : IntKind.i64.wrap ((-t).tdiv (Int.gcd t b)) = (-t).tdiv (Int.gcd t b) := by have := tdiv_bd (x := -t) (y := Int.gcd t b) (m := 4611686018427387904) (by omega) (by omega); exact wrapI (by omega) (by omega)
    have w2 : IntKind.i64.wrap ((-b).tdiv (Int.gcd t b)) = (-b).tdiv (Int.gcd t b) := by have := tdiv_bd (x := -b) (y := Int.gcd t b) (m := 4611686018427387904) (by omega) (by omega); exact wrapI (by omega) (by omega)
    generalize (Int.gcd t b : Int) = g at *
    have hne : ¬ -g = 0 := by omega
    have hne' : ¬ g = 0 := by omega
    generalize (-t).tdiv g = p at *
    generalize (-b).tdiv g = q at *
    cases hf : fracOk (p, q) <;> simp (config := {contextual := true}) [Tryd.f71, List.range, List.range.loop, ints, intss, int, bool, row, frac, fracs, ← List.map_take, ← List.map_drop, hg, hb, w0, hne, hne', e1, e2, w1, w2, mFracOk_at, hf]
  · have hr : redF t b = mkF t b := by simp [redF, hb]
    rw [hr]; unfold mkF
    have w1 : IntKind.i64.wrap (t.tdiv (Int.gcd t b)) = t.tdiv (Int.gcd t b) := by have := tdiv_bd (x := t) (y := Int.gcd t b) (m := 4611686018427387904) (by omega) (by omega); exact wrapI (by omega) (by omega)
    have w2 : IntKind.i64.wrap (b.tdiv (Int.gcd t b)) = b.tdiv (Int.gcd t b) := by have := tdiv_bd (x := b) (y := Int.gcd t b) (m := 4611686018427387904) (by omega) (by omega); exact wrapI (by omega) (by omega)
    generalize (Int.gcd t b : Int) = g at *
    have hne' : ¬ g = 0 := by omega
    generalize hp1 : t.tdiv g = p at *
    generalize hq1 : b.tdiv g = q at *
    cases hf : fracOk (p, q) <;> simp (config := {contextual := true}) [Tryd.f71, List.range, List.range.loop, ints, intss, int, bool, row, frac, fracs, ← List.map_take, ← List.map_drop, hg, hb, hne', hp1, hq1, w1, w2, mFracOk_at, hf]

set_option maxHeartbeats 1000000 in
theorem l02Make_ok : FnOk Tryd.prog 138 mMk := by
  refine mk_ok fun ⟨t, b⟩ ⟨h1, h2, h3, h4⟩ => ?_
  simp only at h1 h2 h3 h4
  obtain ⟨g1, g2⟩ := gcd_bd (x := t) (show b ≠ 0 by omega)
  have hg := mGcd_at 0 (max t (-t)) b (by omega) (by omega) (by omega) h4
  rw [gcd_abs] at hg
  have wn : IntKind.i64.wrap (-t) = -t := wrapI (by omega) (by omega)
  have hG : FnsOk Tryd.prog [(100, (mGcd 0)), (90, mFracOk)] := (.cons l02Gcd_ok (.cons specFractionOk_ok .nil))
  refine callOk_awp (ctx_ok eqOk hG) mixed (live := [true, true, false, false, true, true, true, true, false, false, false, false, false, false, false, false, false, false, false, false, false, false, false, true]) (dt := [(2, ⟨[], [0, 0, 0, 0, 0, 0, 0, 1], []⟩)]) Tryd.func138 rfl (by kernel_rfl) (by kernel_rfl) fun w0 hlens => ?_
  unfold mkF
  have w1 : IntKind.i64.wrap (t.tdiv (Int.gcd t b)) = t.tdiv (Int.gcd t b) := by have := tdiv_bd (x := t) (y := Int.gcd t b) (m := 4611686018427387904) (by omega) (by omega); exact wrapI (by omega) (by omega)
  have w2 : IntKind.i64.wrap (b.tdiv (Int.gcd t b)) = b.tdiv (Int.gcd t b) := by have := tdiv_bd (x := b) (y := Int.gcd t b) (m := 4611686018427387904) (by omega) (by omega); exact wrapI (by omega) (by omega)
  generalize (Int.gcd t b : Int) = g at *
  have hne' : ¬ g = 0 := by omega
  generalize hp1 : t.tdiv g = p at *
  generalize hq1 : b.tdiv g = q at *
  cases hf : fracOk (p, q) <;> simp (config := {contextual := true}) [Tryd.f138, List.range, List.range.loop, ints, intss, int, bool, row, frac, fracs, ← List.map_take, ← List.map_drop, hg, wn, hne', hp1, hq1, w1, w2, mFracOk_at, hf]

noncomputable def mTwo : List AV → Option AV := mk (fun _ => True) (fun (p : (Int) × (Int) × (Int) × (Int)) => [frac (p.1, p.2.1), frac (p.2.2.1, p.2.2.2)]) (fun p => bool (fracOk (p.1, p.2.1) && fracOk (p.2.2.1, p.2.2.2)))
theorem mTwo_at (a : Int) (b : Int) (c : Int) (d : Int) : mTwo [.agg [.v (.int .i64 a), .v (.int .i64 b)], .agg [.v (.int .i64 c), .v (.int .i64 d)]] = some (.v (.bool (fracOk (a, b) && fracOk (c, d)))) :=
  mk_eq (enc := fun (p : (Int) × (Int) × (Int) × (Int)) => [frac (p.1, p.2.1), frac (p.2.2.1, p.2.2.2)]) (x := (a, b, c, d)) (by rintro ⟨a0, a1, a2, a3⟩ ⟨b0, b1, b2, b3⟩ h; simp [ints, intss, int, bool, row, frac, fracs, map_int_inj, map_row_inj, frac_inj, map_frac_inj] at h; simp [h]) trivial
theorem l02Two_ok : FnOk Tryd.prog 137 mTwo := by
  refine mk_ok fun ⟨a, b, c, d⟩ _ => ?_
  have hG : FnsOk Tryd.prog [(90, mFracOk)] := (.cons specFractionOk_ok .nil)
  refine callOk_awp (ctx_ok eqOk hG) mixed (live := [true, true, true, true, true]) (dt := []) Tryd.func137 rfl (by kernel_rfl) (by kernel_rfl) fun w0 hlens => ?_
  cases h1 : fracOk (a, b) <;> simp (config := {contextual := true}) [Tryd.f137, List.range, List.range.loop, ints, intss, int, bool, row, frac, fracs, ← List.map_take, ← List.map_drop, mFracOk_at, h1]

/-- The sum of two fractions, and whether it is valid. -/
def addF (x y : Int × Int) : (Int × Int) × Bool := if fracOk x && fracOk y then mkF (x.1 * y.2 + y.1 * x.2) (x.2 * y.2) else ((0, 0), false)
noncomputable def mAdd : List AV → Option AV := mk (fun _ => True) (fun (p : (Int) × (Int) × (Int) × (Int)) => [frac (p.1, p.2.1), frac (p.2.2.1, p.2.2.2)]) (fun p => .tup [.agg [.v (.int .i64 (addF (p.1, p.2.1) (p.2.2.1, p.2.2.2)).1.1), .v (.int .i64 (addF (p.1, p.2.1) (p.2.2.1, p.2.2.2)).1.2)], .v (.bool (addF (p.1, p.2.1) (p.2.2.1, p.2.2.2)).2)])
theorem mAdd_at (a : Int) (b : Int) (c : Int) (d : Int) : mAdd [.agg [.v (.int .i64 a), .v (.int .i64 b)], .agg [.v (.int .i64 c), .v (.int .i64 d)]] = some (.tup [.agg [.v (.int .i64 (addF (a, b) (c, d)).1.1), .v (.int .i64 (addF (a, b) (c, d)).1.2)], .v (.bool (addF (a, b) (c, d)).2)]) :=
  mk_eq (enc := fun (p : (Int) × (Int) × (Int) × (Int)) => [frac (p.1, p.2.1), frac (p.2.2.1, p.2.2.2)]) (x := (a, b, c, d)) (by rintro ⟨a0, a1, a2, a3⟩ ⟨b0, b1, b2, b3⟩ h; simp [ints, intss, int, bool, row, frac, fracs, map_int_inj, map_row_inj, frac_inj, map_frac_inj] at h; simp [h]) trivial

theorem fracOk_bd {x : Int × Int} (h : fracOk x = true) : -1000000000 ≤ x.1 ∧ x.1 ≤ 1000000000 ∧ 1 ≤ x.2 ∧ x.2 ≤ 1000000000 := by
  simp only [fracOk, Bool.and_eq_true, decide_eq_true_eq] at h; omega
theorem mul_bd {x y m n : Int} (h1 : -m ≤ x) (h2 : x ≤ m) (h3 : -n ≤ y) (h4 : y ≤ n) : -(m * n) ≤ x * y ∧ x * y ≤ m * n := by
  have hx : (x.natAbs : Int) ≤ m := by omega
  have hy : (y.natAbs : Int) ≤ n := by omega
  have : (x * y).natAbs = x.natAbs * y.natAbs := Int.natAbs_mul _ _
  have h5 : (x.natAbs : Int) * y.natAbs ≤ m * n := Int.mul_le_mul hx hy (by omega) (by omega)
  have h6 : ((x * y).natAbs : Int) = (x.natAbs : Int) * y.natAbs := by rw [this]; simp
  omega
theorem mul_pos1 {x y : Int} (h1 : 1 ≤ x) (h2 : 1 ≤ y) : 0 < x * y := Int.mul_pos (by omega) (by omega)

set_option maxHeartbeats 2000000 in
theorem implAdd_ok : FnOk Tryd.prog 139 mAdd := by
  refine mk_ok fun ⟨a, b, c, d⟩ _ => ?_
  have hG : FnsOk Tryd.prog [(105, mFracOk), (71, mRed)] := (.cons implFractionOk_ok (.cons reduced_ok .nil))
  refine callOk_awp (ctx_ok eqOk hG) mixed (live := [true, true, true, true, true, true, false, false, false, false, false, false, false, true]) (dt := []) Tryd.func139 rfl (by kernel_rfl) (by kernel_rfl) fun w0 hlens => ?_
  cases h1 : fracOk (a, b) with
  | false => simp (config := {contextual := true}) [Tryd.f139, List.range, List.range.loop, ints, intss, int, bool, row, frac, fracs, ← List.map_take, ← List.map_drop, mFracOk_at, mTwo_at, h1, addF]
  | true =>
  cases h2 : fracOk (c, d) with
  | false => simp (config := {contextual := true}) [Tryd.f139, List.range, List.range.loop, ints, intss, int, bool, row, frac, fracs, ← List.map_take, ← List.map_drop, mFracOk_at, mTwo_at, h1, h2, addF]
  | true =>
  have b1 := fracOk_bd h1
  have b2 := fracOk_bd h2
  simp only at b1 b2
  have m1 := mul_bd (x := a) (y := d) (m := 1000000000) (n := 1000000000) (by omega) (by omega) (by omega) (by omega)
  have m2 := mul_bd (x := c) (y := b) (m := 1000000000) (n := 1000000000) (by omega) (by omega) (by omega) (by omega)
  have m3 := mul_bd (x := b) (y := d) (m := 1000000000) (n := 1000000000) (by omega) (by omega) (by omega) (by omega)
  have p3 := mul_pos1 (x := b) (y := d) (by omega) (by omega)
  have ha : addF (a, b) (c, d) = mkF (a * d + c * b) (b * d) := by simp [addF, h1, h2]
  rw [ha]
  have w1 : IntKind.i64.wrap (a * d) = a * d := wrapI (by omega) (by omega)
  have w2 : IntKind.i64.wrap (c * b) = c * b := wrapI (by omega) (by omega)
  have w3 : IntKind.i64.wrap (b * d) = b * d := wrapI (by omega) (by omega)
  have w4 : IntKind.i64.wrap (a * d + c * b) = a * d + c * b := wrapI (by omega) (by omega)
  have hz := mMk_at (a * d + c * b) (b * d) ⟨by omega, by omega, by omega, by omega⟩
  have hz2 := mRed_at (a * d + c * b) (b * d) ⟨by omega, by omega, by omega, by omega, by omega⟩
  have hrr : redF (a * d + c * b) (b * d) = mkF (a * d + c * b) (b * d) := by unfold redF; rw [if_neg (by omega)]
  rw [hrr] at hz2
  simp (config := {contextual := true}) [Tryd.f139, List.range, List.range.loop, ints, intss, int, bool, row, frac, fracs, ← List.map_take, ← List.map_drop, mFracOk_at, mTwo_at, h1, h2, w1, w2, w3, w4, hz, hz2]

set_option maxHeartbeats 2000000 in
theorem specAdd_ok : FnOk Tryd.prog 121 mAdd := by
  refine mk_ok fun ⟨a, b, c, d⟩ _ => ?_
  have hG : FnsOk Tryd.prog [(137, mTwo), (138, mMk)] := (.cons l02Two_ok (.cons l02Make_ok .nil))
  refine callOk_awp (ctx_ok eqOk hG) mixed (live := [true, true, true, true, true, true, false, false, false, true]) (dt := []) Tryd.func121 rfl (by kernel_rfl) (by kernel_rfl) fun w0 hlens => ?_
  cases h1 : fracOk (a, b) with
  | false => simp (config := {contextual := true}) [Tryd.f121, List.range, List.range.loop, ints, intss, int, bool, row, frac, fracs, ← List.map_take, ← List.map_drop, mFracOk_at, mTwo_at, h1, addF]
  | true =>
  cases h2 : fracOk (c, d) with
  | false => simp (config := {contextual := true}) [Tryd.f121, List.range, List.range.loop, ints, intss, int, bool, row, frac, fracs, ← List.map_take, ← List.map_drop, mFracOk_at, mTwo_at, h1, h2, addF]
  | true =>
  have b1 := fracOk_bd h1
  have b2 := fracOk_bd h2
  simp only at b1 b2
  have m1 := mul_bd (x := a) (y := d) (m := 1000000000) (n := 1000000000) (by omega) (by omega) (by omega) (by omega)
  have m2 := mul_bd (x := c) (y := b) (m := 1000000000) (n := 1000000000) (by omega) (by omega) (by omega) (by omega)
  have m3 := mul_bd (x := b) (y := d) (m := 1000000000) (n := 1000000000) (by omega) (by omega) (by omega) (by omega)
  have p3 := mul_pos1 (x := b) (y := d) (by omega) (by omega)
  have ha : addF (a, b) (c, d) = mkF (a * d + c * b) (b * d) := by simp [addF, h1, h2]
  rw [ha]
  have w1 : IntKind.i64.wrap (a * d) = a * d := wrapI (by omega) (by omega)
  have w2 : IntKind.i64.wrap (c * b) = c * b := wrapI (by omega) (by omega)
  have w3 : IntKind.i64.wrap (b * d) = b * d := wrapI (by omega) (by omega)
  have w4 : IntKind.i64.wrap (a * d + c * b) = a * d + c * b := wrapI (by omega) (by omega)
  have hz := mMk_at (a * d + c * b) (b * d) ⟨by omega, by omega, by omega, by omega⟩
  have hz2 := mRed_at (a * d + c * b) (b * d) ⟨by omega, by omega, by omega, by omega, by omega⟩
  have hrr : redF (a * d + c * b) (b * d) = mkF (a * d + c * b) (b * d) := by unfold redF; rw [if_neg (by omega)]
  rw [hrr] at hz2
  simp (config := {contextual := true}) [Tryd.f121, List.range, List.range.loop, ints, intss, int, bool, row, frac, fracs, ← List.map_take, ← List.map_drop, mFracOk_at, mTwo_at, h1, h2, w1, w2, w3, w4, hz, hz2]

theorem addF_ok {x y : Int × Int} (h : (addF x y).2 = false) : addF x y = ((0, 0), false) := by
  unfold addF mkF at h ⊢
  split
  · rename_i h1
    rw [if_pos h1] at h
    split
    · rename_i h2; rw [if_pos h2] at h; simp at h
    · rfl
  · rfl

/-- The sum of the first k fractions, and whether all sums up to there are valid. -/
def sumTo (fs : List (Int × Int)) : Nat → (Int × Int) × Bool
  | 0 => ((0, 1), true)
  | k + 1 => if (sumTo fs k).2 = true then addF (sumTo fs k).1 (fs.getD k (0, 0)) else ((0, 0), false)
def sumF (fs : List (Int × Int)) : (Int × Int) × Bool := if 100 < fs.length then ((0, 0), false) else sumTo fs fs.length
theorem sumTo_false {fs : List (Int × Int)} {k : Nat} (h : (sumTo fs k).2 = false) : ∀ n, k ≤ n → (sumTo fs n) = ((0, 0), false) ∨ (n = k ∧ (sumTo fs n).2 = false)
  | 0, hn => by
    have : k = 0 := by omega
    subst this; exact .inr ⟨rfl, h⟩
  | n + 1, hn => by
    by_cases e : k = n + 1
    · subst e; exact .inr ⟨rfl, h⟩
    · rcases sumTo_false h n (by omega) with h1 | ⟨_, h1⟩
      · left; rw [sumTo, h1]; simp
      · left; rw [sumTo, h1]; simp
theorem sumTo_bad {fs : List (Int × Int)} {k n : Nat} (hk : 0 < k) (h : (sumTo fs k).2 = false) (hn : k ≤ n) : sumTo fs n = ((0, 0), false) := by
  rcases sumTo_false h n hn with h1 | ⟨rfl, _⟩
  · exact h1
  · obtain ⟨m, rfl⟩ : ∃ m, n = m + 1 := ⟨n - 1, by omega⟩
    rw [sumTo] at h ⊢
    split
    · rename_i h1; rw [if_pos h1] at h; exact addF_ok h
    · rfl

noncomputable def mSumF : List AV → Option AV := mk (fun _ => True) (fun (p : (Bool) × (List (Int × Int))) => [fracs p.1 p.2]) (fun p => .tup [.agg [.v (.int .i64 (sumF p.2).1.1), .v (.int .i64 (sumF p.2).1.2)], .v (.bool (sumF p.2).2)])
theorem mSumF_at (nl : Bool) (fs : List (Int × Int)) : mSumF [.sl nl 2 (fs.map frac)] = some (.tup [.agg [.v (.int .i64 (sumF fs).1.1), .v (.int .i64 (sumF fs).1.2)], .v (.bool (sumF fs).2)]) :=
  mk_eq (enc := fun (p : (Bool) × (List (Int × Int))) => [fracs p.1 p.2]) (x := (nl, fs)) (by rintro ⟨a0, a1⟩ ⟨b0, b1⟩ h; simp [ints, intss, int, bool, row, frac, fracs, map_int_inj, map_row_inj, frac_inj, map_frac_inj] at h; simp [h]) trivial

set_option maxHeartbeats 2000000 in
theorem implSumF_ok : FnOk Tryd.prog 123 mSumF := by
  refine mk_ok fun ⟨nl, fs⟩ _ => ?_
  have hG : FnsOk Tryd.prog [(124, mWhole), (139, mAdd)] := (.cons whole_ok (.cons implAdd_ok .nil))
  refine callOk_awp (ctx_ok eqOk hG) mixed (live := [true, false, true, true, true, true, false, true, false, false, true, false, false, true, true, true, true, false, false, false, false, false, false, false, false, false, true]) (dt := []) Tryd.func123 rfl (by kernel_rfl) (by kernel_rfl) fun w0 hlens => ?_
  have hll : fs.length ≤ 9223372036854775807 := (lens_fracs.1 hlens.1).1
  clear hlens
  by_cases h1 : 100 < fs.length
  · have h1' : (100 : Int) < (fs.length : Int) := by omega
    simp (config := {contextual := true}) [Tryd.f123, List.range, List.range.loop, ints, intss, int, bool, row, frac, fracs, ← List.map_take, ← List.map_drop, h1, h1', sumF]
  have h1' : ¬ (100 : Int) < (fs.length : Int) := by omega
  have hs : sumF fs = sumTo fs fs.length := by simp [sumF, h1]
  rw [hs]
  generalize hr : sumTo fs fs.length = r
  simp (config := {contextual := true}) [Tryd.f123, List.range, List.range.loop, ints, intss, int, bool, row, frac, fracs, ← List.map_take, ← List.map_drop, h1, h1', mWhole_at]
  refine awp_range (live := [true, false, true, true, true, true, false, true, false, false, true, false, false, true, true, true, true, false, false, false, false, false, false, false, false, false, true]) (ctx_ok eqOk hG) mixed [false, false, true, false, true, false, false, false, false, false, false, false, false, true, true, true] (fs.length) (fun k => (sumTo fs k).2 = true) (fun k => ⟨[.junk, .junk, .ptr 0 [] 0 0, .junk, .ptr 1 [] 0 0, .junk, .junk, .junk, .junk, .junk, .junk, .junk, .junk, fracs nl fs, int fs.length, int k, .junk, .junk, .junk, .junk, .junk, .junk, .junk, .junk, .junk, .junk, .junk, .junk, .junk, .junk], [⟨true, .sl false 2 [frac (0, 0)]⟩, ⟨true, .sl false 2 [frac (sumTo fs k).1]⟩]⟩) ?_ (by simp [sub, slotsLe, clean, keep, refsL, refs, once, place, renL, ren, List.replicate, int, bool, fracs, frac, sumTo]) ?_ ?_ ?_
  · exact hll
  · rfl
  · intro k h hp hwk
    have e : sumTo fs (k + 1) = addF (sumTo fs k).1 fs[k] := by rw [sumTo, if_pos hp]; congr 1; simp [List.getD_eq_getElem?_getD, h]
    have hbad : (sumTo fs (k + 1)).2 = false → r = ((0, 0), false) := fun hb => by rw [← hr]; exact sumTo_bad (by omega) hb (by omega)
    generalize sumTo fs k = x at *
    generalize sumTo fs (k + 1) = y at *
    obtain ⟨⟨x1, x2⟩, xb⟩ := x
    obtain ⟨⟨y1, y2⟩, yb⟩ := y
    have ha := mAdd_at x1 x2 fs[k].1 fs[k].2
    rw [show ((fs[k].1, fs[k].2) : Int × Int) = fs[k] from rfl] at ha
    simp only at e
    rw [← e] at ha
    simp only at ha hbad
    cases yb with
    | true =>
      simp (config := {contextual := true}) [List.range, List.range.loop, ints, intss, int, bool, row, frac, fracs, ← List.map_take, ← List.map_drop, h, hwk, ha]
    | false =>
      rw [hbad rfl]
      simp (config := {contextual := true}) [List.range, List.range.loop, ints, intss, int, bool, row, frac, fracs, ← List.map_take, ← List.map_drop, h, hwk, ha]
  · intro hp
    rw [hr] at hp
    obtain ⟨⟨r1, r2⟩, rb⟩ := r
    simp only at hp
    subst hp
    simp (config := {contextual := true}) [List.range, List.range.loop, ints, intss, int, bool, row, frac, fracs, ← List.map_take, ← List.map_drop, hr]

set_option maxHeartbeats 2000000 in
theorem specSumF_ok : FnOk Tryd.prog 92 mSumF := by
  refine mk_ok fun ⟨nl, fs⟩ _ => ?_
  have hG : FnsOk Tryd.prog [(121, mAdd)] := (.cons specAdd_ok .nil)
  refine callOk_awp (ctx_ok eqOk hG) mixed (live := [true, false, true, true, true, false, true, true, true, false, false, true, false, false, true, true, true, true, false, false, false, false, false, false, false, false, false, true]) (dt := []) Tryd.func92 rfl (by kernel_rfl) (by kernel_rfl) fun w0 hlens => ?_
  have hll : fs.length ≤ 9223372036854775807 := (lens_fracs.1 hlens.1).1
  clear hlens
  by_cases h1 : 100 < fs.length
  · have h1' : (100 : Int) < (fs.length : Int) := by omega
    simp (config := {contextual := true}) [Tryd.f92, List.range, List.range.loop, ints, intss, int, bool, row, frac, fracs, ← List.map_take, ← List.map_drop, h1, h1', sumF]
  have h1' : ¬ (100 : Int) < (fs.length : Int) := by omega
  have hs : sumF fs = sumTo fs fs.length := by simp [sumF, h1]
  rw [hs]
  generalize hr : sumTo fs fs.length = r
  simp (config := {contextual := true}) [Tryd.f92, List.range, List.range.loop, ints, intss, int, bool, row, frac, fracs, ← List.map_take, ← List.map_drop, h1, h1', mWhole_at]
  refine awp_range (live := [true, false, true, true, true, false, true, true, true, false, false, true, false, false, true, true, true, true, false, false, false, false, false, false, false, false, false, true]) (ctx_ok eqOk hG) mixed [false, false, true, false, true, false, false, false, false, false, false, false, false, false, true, true, true] (fs.length) (fun k => (sumTo fs k).2 = true) (fun k => ⟨[.junk, .junk, .ptr 0 [] 0 0, .junk, .ptr 1 [] 0 0, .junk, .junk, .junk, .junk, .junk, .junk, .junk, .junk, .junk, fracs nl fs, int fs.length, int k, .junk, .junk, .junk, .junk, .junk, .junk, .junk, .junk, .junk, .junk, .junk, .junk, .junk, .junk, .junk], [⟨true, .sl false 2 [frac (0, 0)]⟩, ⟨true, .sl false 2 [frac (sumTo fs k).1]⟩]⟩) ?_ (by simp [sub, slotsLe, clean, keep, refsL, refs, once, place, renL, ren, List.replicate, int, bool, fracs, frac, sumTo]) ?_ ?_ ?_
  · exact hll
  · rfl
  · intro k h hp hwk
    have e : sumTo fs (k + 1) = addF (sumTo fs k).1 fs[k] := by rw [sumTo, if_pos hp]; congr 1; simp [List.getD_eq_getElem?_getD, h]
    have hbad : (sumTo fs (k + 1)).2 = false → r = ((0, 0), false) := fun hb => by rw [← hr]; exact sumTo_bad (by omega) hb (by omega)
    generalize sumTo fs k = x at *
    generalize sumTo fs (k + 1) = y at *
    obtain ⟨⟨x1, x2⟩, xb⟩ := x
    obtain ⟨⟨y1, y2⟩, yb⟩ := y
    have ha := mAdd_at x1 x2 fs[k].1 fs[k].2
    rw [show ((fs[k].1, fs[k].2) : Int × Int) = fs[k] from rfl] at ha
    simp only at e
    rw [← e] at ha
    simp only at ha hbad
    cases yb with
    | true =>
      simp (config := {contextual := true}) [List.range, List.range.loop, ints, intss, int, bool, row, frac, fracs, ← List.map_take, ← List.map_drop, h, hwk, ha]
    | false =>
      rw [hbad rfl]
      simp (config := {contextual := true}) [List.range, List.range.loop, ints, intss, int, bool, row, frac, fracs, ← List.map_take, ← List.map_drop, h, hwk, ha]
  · intro hp
    rw [hr] at hp
    obtain ⟨⟨r1, r2⟩, rb⟩ := r
    simp only at hp
    subst hp
    simp (config := {contextual := true}) [List.range, List.range.loop, ints, intss, int, bool, row, frac, fracs, ← List.map_take, ← List.map_drop, hr]

end Go.Proofs.YtlkgppincgpfjaaDoor.Ax

/-
  Contracts: marks on lists of ints, and whether they stand. No condition.
-/
namespace Go.Proofs.YtlkgppincgpfjaaDoor.Ax
open Go Go.RowKit
set_option linter.unusedSimpArgs false

/-- The marks from k on, so many. -/
def mkd (k : Int) (n : Nat) : List Int := (List.range n).map fun (i : Nat) => k + i
theorem mkd_len {k : Int} {n : Nat} : (mkd k n).length = n := by simp [mkd]
theorem mkd_take {k : Int} {n : Nat} : (mkd k n).take n = mkd k n := List.take_of_length_le (by simp [mkd_len])
theorem mkd_at {k : Int} {n i : Nat} (h : i < (mkd k n).length) : (mkd k n)[i] = k + i := by simp [mkd]
/-- A list whose first i numbers are marked. -/
def mkTo (k : Int) (xs : List Int) (i : Nat) : List Int := mkd k i ++ xs.drop i
theorem mkTo_len {k : Int} {xs : List Int} {i : Nat} (h : i ≤ xs.length) : (mkTo k xs i).length = xs.length := by simp [mkTo, mkd_len]; omega
theorem mkTo_zero {k : Int} {xs : List Int} : mkTo k xs 0 = xs := by simp [mkTo, mkd]
theorem mkTo_all {k : Int} {xs : List Int} : mkTo k xs xs.length = mkd k xs.length := by simp [mkTo]
theorem mkTo_set {k : Int} {xs : List Int} {i : Nat} (h : i < xs.length) : ((mkTo k xs i).map int).set i (.v (.int .i64 (k + i))) = (mkTo k xs (i + 1)).map int := by
  have : (AV.v (.int .i64 (k + i))) = int (k + i) := rfl
  rw [this, ← List.map_set]
  congr 1
  unfold mkTo
  rw [List.set_append, if_neg (by simp [mkd_len]), mkd_len, Nat.sub_self, drop_get h, List.set_cons_zero]
  simp [mkd, List.range_succ]

noncomputable def mMarkI : List AV → Option (Nat × AV × AV) := mkM (fun (p : Bool × List Int × Int) => 0 ≤ p.2.2 ∧ p.2.2 + p.2.1.length ≤ 2 ^ 62) (fun p => [ints p.1 p.2.1, int p.2.2]) (fun p => (0, int (p.2.2 + p.2.1.length), ints p.1 (mkd p.2.2 p.2.1.length)))
theorem mMarkI_at (nl : Bool) (xs : List Int) (k : Int) (h : 0 ≤ k ∧ k + xs.length ≤ 2 ^ 62) : mMarkI [.sl nl 1 (xs.map int), .v (.int .i64 k)] = some (0, .v (.int .i64 (k + xs.length)), .sl nl 1 ((mkd k xs.length).map int)) :=
  mkM_eq (enc := fun (p : Bool × List Int × Int) => [ints p.1 p.2.1, int p.2.2]) (x := (nl, xs, k)) (by rintro ⟨a, b, c⟩ ⟨d, e, f⟩ h; simp [ints, int, map_int_inj] at h; simp [h]) h

noncomputable def mHeldI : List AV → Option AV := mk (fun (p : Bool × Nat × Int) => 0 ≤ p.2.2 ∧ p.2.2 + p.2.1 ≤ 2 ^ 62) (fun p => [ints p.1 (mkd p.2.2 p.2.1), int p.2.2]) (fun p => int (p.2.2 + p.2.1))
theorem mHeldI_at (nl : Bool) (n : Nat) (k : Int) (h : 0 ≤ k ∧ k + n ≤ 2 ^ 62) : mHeldI [.sl nl 1 ((mkd k n).map int), .v (.int .i64 k)] = some (.v (.int .i64 (k + n))) :=
  mk_eq (enc := fun (p : Bool × Nat × Int) => [ints p.1 (mkd p.2.2 p.2.1), int p.2.2]) (x := (nl, n, k)) (by
    rintro ⟨a, b, c⟩ ⟨d, e, f⟩ h
    simp [ints, int, map_int_inj] at h
    obtain ⟨⟨_, h1⟩, h2⟩ := h
    have := congrArg List.length h1
    simp [mkd_len] at this
    simp [h2, this]) h

/-- Rows of which the first i are marked. -/
def mkRow (k : Int) (xss : List (Bool × List Int)) (j : Nat) : Bool × List Int := ((xss.getD j (true, [])).1, mkd (k + rowSum xss j) (xss.getD j (true, [])).2.length)
def mkRT (k : Int) (xss : List (Bool × List Int)) (i : Nat) : List (Bool × List Int) := (List.range xss.length).map fun j => if j < i then mkRow k xss j else xss.getD j (true, [])
def mkRS (k : Int) (xss : List (Bool × List Int)) : List (Bool × List Int) := (List.range xss.length).map (mkRow k xss)
theorem getDD {xss : List (Bool × List Int)} {i : Nat} (h : i < xss.length) : xss.getD i (true, []) = xss[i] := by simp [List.getD_eq_getElem?_getD, h]
theorem mkRT_len {k : Int} {xss : List (Bool × List Int)} {i : Nat} : (mkRT k xss i).length = xss.length := by simp [mkRT]
theorem mkRS_len {k : Int} {xss : List (Bool × List Int)} : (mkRS k xss).length = xss.length := by simp [mkRS]
theorem mkRS_take {k : Int} {xss : List (Bool × List Int)} : (mkRS k xss).take xss.length = mkRS k xss := List.take_of_length_le (by simp [mkRS_len])
theorem mkRT_zero {k : Int} {xss : List (Bool × List Int)} : mkRT k xss 0 = xss := by
  apply List.ext_getElem
  · simp [mkRT]
  · intro i h1 h2
    simp only [mkRT, List.getElem_map, List.getElem_range, Nat.not_lt_zero, if_false, getDD h2]
theorem mkRT_all {k : Int} {xss : List (Bool × List Int)} : mkRT k xss xss.length = mkRS k xss := by
  apply List.ext_getElem
  · simp [mkRT, mkRS]
  · intro i h1 h2
    have h3 : i < xss.length := by simpa [mkRS] using h2
    simp [mkRT, mkRS, h3]
theorem mkRT_at {k : Int} {xss : List (Bool × List Int)} {i : Nat} (h : i < xss.length) (h' : i < (mkRT k xss i).length) : (mkRT k xss i)[i] = xss[i] := by
  simp only [mkRT, List.getElem_map, List.getElem_range, Nat.lt_irrefl, if_false, getDD h]
theorem mkRS_at {k : Int} {xss : List (Bool × List Int)} {i : Nat} (h : i < xss.length) (h' : i < (mkRS k xss).length) : (mkRS k xss)[i] = (xss[i].1, mkd (k + rowSum xss i) xss[i].2.length) := by
  simp only [mkRS, List.getElem_map, List.getElem_range, mkRow, getDD h]
theorem mkRT_set {k : Int} {xss : List (Bool × List Int)} {i : Nat} (h : i < xss.length) : ((mkRT k xss i).map row).set i (.sl xss[i].1 1 ((mkd (k + rowSum xss i) xss[i].2.length).map int)) = (mkRT k xss (i + 1)).map row := by
  have : (AV.sl xss[i].1 1 ((mkd (k + rowSum xss i) xss[i].2.length).map int)) = row (mkRow k xss i) := by simp only [row, mkRow, getDD h]
  rw [this, ← List.map_set]
  congr 1
  apply List.ext_getElem
  · simp [mkRT]
  · intro j h1 h2
    rw [List.getElem_set]
    simp only [mkRT, List.getElem_map, List.getElem_range]
    by_cases e : i = j
    · subst e; simp
    · rw [if_neg e]
      by_cases h3 : j < i
      · rw [if_pos h3, if_pos (by omega)]
      · rw [if_neg h3, if_neg (by omega)]

theorem need_own {xss : List (Bool × List Int)} : need (own xss) = need xss := by
  unfold need rowSum own; simp [← List.map_take, Function.comp_def]

noncomputable def mMarkII : List AV → Option (Nat × AV × AV) := mkM (fun (p : Bool × List (Bool × List Int) × Int) => 0 ≤ p.2.2 ∧ p.2.2 + need p.2.1 ≤ 2 ^ 61) (fun p => [intss p.1 p.2.1, int p.2.2]) (fun p => (0, int (p.2.2 + rowSum p.2.1 p.2.1.length), intss p.1 (mkRS p.2.2 p.2.1)))
theorem mMarkII_at (nl : Bool) (xss : List (Bool × List Int)) (k : Int) (h : 0 ≤ k ∧ k + need xss ≤ 2 ^ 61) : mMarkII [.sl nl 1 (xss.map row), .v (.int .i64 k)] = some (0, .v (.int .i64 (k + rowSum xss xss.length)), .sl nl 1 ((mkRS k xss).map row)) :=
  mkM_eq (enc := fun (p : Bool × List (Bool × List Int) × Int) => [intss p.1 p.2.1, int p.2.2]) (x := (nl, xss, k)) (by rintro ⟨a, b, c⟩ ⟨d, e, f⟩ h; simp [intss, int, map_row_inj] at h; simp [h]) h

noncomputable def mHeldII : List AV → Option AV := mk (fun (p : Bool × List (Bool × List Int) × Int) => 0 ≤ p.2.2 ∧ p.2.2 + need p.2.1 ≤ 2 ^ 61) (fun p => [intss p.1 (mkRS p.2.2 p.2.1), int p.2.2]) (fun p => int (p.2.2 + ((mkRS p.2.2 p.2.1).map (·.2.length)).sum))
theorem mkRS_sum {k : Int} {xss : List (Bool × List Int)} : ((mkRS k xss).map (·.2.length)).sum = rowSum xss xss.length := by
  have : (mkRS k xss).map (·.2.length) = xss.map (·.2.length) := by
    apply List.ext_getElem
    · simp [mkRS]
    · intro i h1 h2
      have h3 : i < xss.length := by simpa using h2
      rw [List.getElem_map, List.getElem_map, mkRS_at h3]; simp [mkd_len]
  rw [this]; simp [rowSum]
theorem mHeldII_at (nl : Bool) (xss : List (Bool × List Int)) (k : Int) (h : 0 ≤ k ∧ k + need xss ≤ 2 ^ 61) : mHeldII [.sl nl 1 ((mkRS k xss).map row), .v (.int .i64 k)] = some (.v (.int .i64 (k + rowSum xss xss.length))) := by
  refine (mk_eq (enc := fun p : Bool × List (Bool × List Int) × Int => [intss p.1 (mkRS p.2.2 p.2.1), int p.2.2]) (x := (nl, xss, k)) (by
    rintro ⟨a, b, c⟩ ⟨d, e, f⟩ h
    simp [intss, int, map_row_inj] at h
    obtain ⟨⟨_, h1⟩, rfl⟩ := h
    simp only [h1]) h).trans ?_
  simp only [int, mkRS_sum]

end Go.Proofs.YtlkgppincgpfjaaDoor.Ax

/-
  Contracts: CutAndChoose (both programs). No condition.
-/
namespace Go.Proofs.YtlkgppincgpfjaaDoor.Ax
open Go Go.RowKit
set_option linter.unusedSimpArgs false

def mBoolInt : List AV → Option AV
  | [.v (.bool b)] => some (.v (.int .i64 (if b then 1 else 0)))
  | _ => none
theorem mBoolInt_at {b : Bool} : mBoolInt [.v (.bool b)] = some (.v (.int .i64 (if b then 1 else 0))) := rfl
theorem tkd {l : List Int} {c : Nat} : List.take (l.length - c) (List.drop c l) = List.drop c l := List.take_of_length_le (by simp)

/-- The lesser of the two parts at a cut. -/
def lessr (r : List Int) (c : Nat) : Int := min (sumW (r.take c)) (sumW (r.drop c))
/-- The first best cut among the first m. -/
def bestTo (r : List Int) : Nat → Nat
  | 0 => 0
  | m + 1 => if lessr r (bestTo r m) < lessr r m then m else bestTo r m
theorem bestTo_le {r : List Int} : ∀ {m : Nat}, bestTo r (m + 1) ≤ m
  | 0 => by simp [bestTo]
  | m + 1 => by rw [bestTo]; split; exact Nat.le_refl _; exact Nat.le_trans bestTo_le (Nat.le_succ m)
def cutP (r0 r1 : List Int) (i : Nat) : Int :=
  let c := bestTo r0 (r0.length + 1)
  let f : Int := if sumW (r1.drop c) < sumW (r1.take c) then 1 else 0
  if i < c then f else 1 - f
def cutList (r0 r1 : List Int) : List Int := (List.range r0.length).map (cutP r0 r1)
theorem cutList_len {r0 r1 : List Int} : (cutList r0 r1).length = r0.length := by simp [cutList]
def cutL (xss : List (Bool × List Int)) : Bool × List Int := match xss with
  | [r0, r1] => if rectB xss 3 10 100 = true then (false, cutList r0.2 r1.2) else (true, [])
  | _ => (true, [])
theorem cutL_len {xss : List (Bool × List Int)} : (cutL xss).2.length ≤ 2 ^ 40 := by
  unfold cutL
  split
  · split
    · rename_i h
      have := rect_len h
      simp [wid, cutList] at this ⊢; omega
    · simp
  · simp

noncomputable def mCut : List AV → Option AV := mk (fun _ => True) (fun (p : (Bool) × (List (Bool × List Int))) => [intss p.1 p.2]) (fun p => .sl (cutL p.2).1 1 ((cutL p.2).2.map int))
theorem mCut_at (nl : Bool) (xss : List (Bool × List Int)) : mCut [.sl nl 1 (xss.map row)] = some (.sl (cutL xss).1 1 ((cutL xss).2.map int)) :=
  mk_eq (enc := fun (p : (Bool) × (List (Bool × List Int))) => [intss p.1 p.2]) (x := (nl, xss)) (by rintro ⟨a0, a1⟩ ⟨b0, b1⟩ h; simp [ints, intss, int, bool, row, frac, fracs, map_int_inj, map_row_inj, frac_inj, map_frac_inj] at h; simp [h]) trivial

noncomputable def mLess : List AV → Option AV := mk (fun (p : Nat × Bool × List (Bool × List Int)) => ∃ r rs, p.2.2 = r :: rs ∧ p.1 ≤ r.2.length) (fun p => [int p.1, .fp (intss p.2.1 p.2.2) 0]) (fun p => int (lessr (p.2.2.headD (true, [])).2 p.1))
theorem mLess_at (c : Nat) (nl : Bool) (r : Bool × List Int) (rs : List (Bool × List Int)) (h : c ≤ r.2.length) : mLess [.v (.int .i64 c), .fp (.sl nl 1 (row r :: rs.map row)) 0] = some (.v (.int .i64 (lessr r.2 c))) :=
  mk_eq (enc := fun (p : Nat × Bool × List (Bool × List Int)) => [int p.1, .fp (intss p.2.1 p.2.2) 0]) (x := (c, nl, r :: rs)) (by
    rintro ⟨a, b, e⟩ ⟨a', b', e'⟩ h
    simp [int, intss, map_row_inj] at h
    obtain ⟨h1, _, h2⟩ := h
    have : a = a' := by omega
    simp [this, h2]) ⟨r, rs, rfl, h⟩

/-- The list whose first k pieces are given. -/
def cutF (r0 r1 : List Int) (k : Nat) : List AV := filled (fun i => int (cutP r0 r1 i)) (int 0) (List.range r0.length) k
theorem cutF_len {r0 r1 : List Int} {k : Nat} (h : k ≤ r0.length) : (cutF r0 r1 k).length = r0.length := by unfold cutF; rw [filled_len (by simpa using h)]; simp
theorem cutF_zero {r0 r1 : List Int} : cutF r0 r1 0 = List.replicate r0.length (.v (.int .i64 0)) := by simp [cutF, filled_zero, int]
theorem cutF_all {r0 r1 : List Int} : cutF r0 r1 r0.length = (cutList r0 r1).map int := by
  have := filled_all (f := fun i => int (cutP r0 r1 i)) (z := int 0) (xs := List.range r0.length)
  rw [List.length_range] at this
  rw [cutF, this]; simp [cutList]
theorem cutF_at {r0 r1 : List Int} {k : Nat} (h : k < r0.length) (hh : k < (cutF r0 r1 k).length) : (cutF r0 r1 k)[k] = .v (.int .i64 0) := filled_get' (by simpa using h) hh
theorem cutF_set {r0 r1 : List Int} {k : Nat} (h : k < r0.length) : (cutF r0 r1 k).set k (.v (.int .i64 (cutP r0 r1 k))) = cutF r0 r1 (k + 1) := by
  have := filled_set (f := fun i => int (cutP r0 r1 i)) (z := int 0) (xs := List.range r0.length) (k := k) (by simpa using h)
  simpa [cutF, int] using this

theorem cutL_no {xss : List (Bool × List Int)} (h : rectB xss 3 10 100 = false ∨ ¬ xss.length = 2) : cutL xss = (true, []) := by
  match xss, h with
  | [], _ => rfl
  | [a], _ => rfl
  | [a, b], h => simp at h; simp [cutL, h]
  | a :: b :: c :: l, _ => rfl

/-- The first k pieces, given. -/
def cutA (r0 r1 : List Int) (k : Nat) : List Int := (List.range k).map (cutP r0 r1)
theorem cutA_len {r0 r1 : List Int} {k : Nat} : (cutA r0 r1 k).length = k := by simp [cutA]
theorem cutA_zero {r0 r1 : List Int} : cutA r0 r1 0 = [] := by simp [cutA]
theorem cutA_succ {r0 r1 : List Int} {k : Nat} : (cutA r0 r1 k).map int ++ [.v (.int .i64 (cutP r0 r1 k))] = (cutA r0 r1 (k + 1)).map int := by simp [cutA, List.range_succ, int]
theorem cutA_all {r0 r1 : List Int} : cutA r0 r1 r0.length = cutList r0 r1 := rfl

end Go.Proofs.YtlkgppincgpfjaaDoor.Ax

/-
  Contracts: marks on lists of fractions, FirstShares (both programs). No condition.
-/
namespace Go.Proofs.YtlkgppincgpfjaaDoor.Ax
open Go Go.RowKit
set_option linter.unusedSimpArgs false

/-- The marks from k on, for so many fractions. -/
def mkdF (k : Int) (n : Nat) : List (Int × Int) := (List.range n).map fun (i : Nat) => (k + 2 * (i : Int), k + 2 * (i : Int) + 1)
theorem mkdF_len {k : Int} {n : Nat} : (mkdF k n).length = n := by simp [mkdF]
theorem mkdF_take {k : Int} {n : Nat} : (mkdF k n).take n = mkdF k n := List.take_of_length_le (by simp [mkdF_len])
theorem mkdF_at {k : Int} {n i : Nat} (h : i < (mkdF k n).length) : (mkdF k n)[i] = (k + 2 * (i : Int), k + 2 * (i : Int) + 1) := by simp [mkdF]
def mkFTo (k : Int) (xs : List (Int × Int)) (i : Nat) : List (Int × Int) := mkdF k i ++ xs.drop i
theorem mkFTo_len {k : Int} {xs : List (Int × Int)} {i : Nat} (h : i ≤ xs.length) : (mkFTo k xs i).length = xs.length := by simp [mkFTo, mkdF_len]; omega
theorem mkFTo_zero {k : Int} {xs : List (Int × Int)} : mkFTo k xs 0 = xs := by simp [mkFTo, mkdF]
theorem mkFTo_all {k : Int} {xs : List (Int × Int)} : mkFTo k xs xs.length = mkdF k xs.length := by simp [mkFTo]
theorem mkFTo_set {k : Int} {xs : List (Int × Int)} {i : Nat} (h : i < xs.length) : ((mkFTo k xs i).map frac).set i (.agg [.v (.int .i64 (k + 2 * (i : Int))), .v (.int .i64 (k + 2 * (i : Int) + 1))]) = (mkFTo k xs (i + 1)).map frac := by
  have : (AV.agg [.v (.int .i64 (k + 2 * (i : Int))), .v (.int .i64 (k + 2 * (i : Int) + 1))]) = frac (k + 2 * (i : Int), k + 2 * (i : Int) + 1) := rfl
  rw [this, ← List.map_set]
  congr 1
  unfold mkFTo
  rw [List.set_append, if_neg (by simp [mkdF_len]), mkdF_len, Nat.sub_self, drop_get h, List.set_cons_zero]
  simp [mkdF, List.range_succ]

noncomputable def mMarkF : List AV → Option (Nat × AV × AV) := mkM (fun (p : Bool × List (Int × Int) × Int) => 0 ≤ p.2.2 ∧ p.2.2 + 2 * p.2.1.length ≤ 2 ^ 62) (fun p => [fracs p.1 p.2.1, int p.2.2]) (fun p => (0, int (p.2.2 + 2 * p.2.1.length), fracs p.1 (mkdF p.2.2 p.2.1.length)))
theorem mMarkF_at (nl : Bool) (xs : List (Int × Int)) (k : Int) (h : 0 ≤ k ∧ k + 2 * xs.length ≤ 2 ^ 62) : mMarkF [.sl nl 2 (xs.map frac), .v (.int .i64 k)] = some (0, .v (.int .i64 (k + 2 * xs.length)), .sl nl 2 ((mkdF k xs.length).map frac)) :=
  mkM_eq (enc := fun (p : Bool × List (Int × Int) × Int) => [fracs p.1 p.2.1, int p.2.2]) (x := (nl, xs, k)) (by rintro ⟨a, b, c⟩ ⟨d, e, f⟩ h; simp [fracs, int, map_frac_inj] at h; simp [h]) h

noncomputable def mHeldF : List AV → Option AV := mk (fun (p : Bool × Nat × Int) => 0 ≤ p.2.2 ∧ p.2.2 + 2 * p.2.1 ≤ 2 ^ 62) (fun p => [fracs p.1 (mkdF p.2.2 p.2.1), int p.2.2]) (fun p => int (p.2.2 + 2 * p.2.1))
theorem mHeldF_at (nl : Bool) (n : Nat) (k : Int) (h : 0 ≤ k ∧ k + 2 * n ≤ 2 ^ 62) : mHeldF [.sl nl 2 ((mkdF k n).map frac), .v (.int .i64 k)] = some (.v (.int .i64 (k + 2 * n))) :=
  mk_eq (enc := fun (p : Bool × Nat × Int) => [fracs p.1 (mkdF p.2.2 p.2.1), int p.2.2]) (x := (nl, n, k)) (by
    rintro ⟨a, b, c⟩ ⟨d, e, f⟩ h
    simp [fracs, int, map_frac_inj] at h
    obtain ⟨⟨_, h1⟩, h2⟩ := h
    have := congrArg List.length h1
    simp [mkdF_len] at this
    simp [h2, this]) h

/-- A list that is nil until something is put into it. -/
def apA : Nat → AV
  | 0 => .sl true 1 []
  | k + 1 => .ref 0 [] 0 (k + 1)
def apT (sz : Nat) (l : List AV) : Nat → List Tok
  | 0 => []
  | _ + 1 => [⟨true, .sl false sz l⟩]

/-- Heir 0's first share of thing x. -/
def fshare (r0 r1 : List Int) (x : Nat) : Int × Int := (if at0 r1 x ≤ at0 r0 x then 1 else 0, 1)
def fsA (r0 r1 : List Int) (k : Nat) : List (Int × Int) := (List.range k).map (fshare r0 r1)
theorem fsA_len {r0 r1 : List Int} {k : Nat} : (fsA r0 r1 k).length = k := by simp [fsA]
theorem fsA_zero {r0 r1 : List Int} : fsA r0 r1 0 = [] := by simp [fsA]
theorem fsA_succ {r0 r1 : List Int} {k : Nat} : (fsA r0 r1 k).map frac ++ [.agg [.v (.int .i64 (if at0 r1 k ≤ at0 r0 k then 1 else 0)), .v (.int .i64 1)]] = (fsA r0 r1 (k + 1)).map frac := by simp [fsA, List.range_succ, frac, fshare]
def firstL (xss : List (Bool × List Int)) : List (Int × Int) := match xss with
  | [r0, r1] => if pointsB xss = true then fsA r0.2 r1.2 r0.2.length else []
  | _ => []
theorem firstL_len {xss : List (Bool × List Int)} : (firstL xss).length ≤ 2 ^ 40 := by
  unfold firstL
  split
  · split
    · rename_i h
      have := rect_len (points_facts h).2
      simp [wid, fsA_len] at this ⊢; omega
    · simp
  · simp
theorem firstL_no {xss : List (Bool × List Int)} (h : pointsB xss = false) : firstL xss = [] := by
  unfold firstL; split <;> simp [h]

noncomputable def mFirst : List AV → Option AV := mk (fun _ => True) (fun (p : (Bool) × (List (Bool × List Int))) => [intss p.1 p.2]) (fun p => .sl (!pointsB p.2) 2 ((firstL p.2).map frac))
theorem mFirst_at (nl : Bool) (xss : List (Bool × List Int)) : mFirst [.sl nl 1 (xss.map row)] = some (.sl (!pointsB xss) 2 ((firstL xss).map frac)) :=
  mk_eq (enc := fun (p : (Bool) × (List (Bool × List Int))) => [intss p.1 p.2]) (x := (nl, xss)) (by rintro ⟨a0, a1⟩ ⟨b0, b1⟩ h; simp [ints, intss, int, bool, row, frac, fracs, map_int_inj, map_row_inj, frac_inj, map_frac_inj] at h; simp [h]) trivial

/-- A nil slice is a nil slice of whatever. -/
theorem callOk_nil {P : Program} {f : FuncId} {args : List AV} {a b : Nat} (h : CallOk P f args (.sl true a [])) : CallOk P f args (.sl true b []) := by
  refine ⟨h.1, fun w F vals hF hv => (h.2 w F vals hF hv).mono fun e w' he => ?_⟩
  obtain ⟨y, S, h1, h2, h3, h4⟩ := he
  refine ⟨y, S, h1, h2, h3, ?_⟩
  obtain ⟨a1, l, c, hy, k1, k2, k3, k4⟩ := Excl.of_own h4
  refine Excl.own (S := S) ⟨a1, l, c, hy, k1, k2, k3, ?_⟩
  rcases k4 with k4 | ⟨_, _, _, _, _, k4, _⟩
  · exact .inl k4
  · simp at k4

noncomputable def mL28 : List AV → Option AV := mk (fun (p : Bool × (Bool × List Int) × (Bool × List Int) × Nat) => p.2.2.2 < p.2.1.2.length ∧ p.2.2.2 < p.2.2.1.2.length) (fun p => [intss p.1 [p.2.1, p.2.2.1], int p.2.2.2]) (fun p => bool (decide (at0 p.2.2.1.2 p.2.2.2 ≤ at0 p.2.1.2 p.2.2.2)))
theorem mL28_at (nl : Bool) (r0 r1 : Bool × List Int) (k : Nat) (h : k < r0.2.length ∧ k < r1.2.length) : mL28 [.sl nl 1 [.sl r0.1 1 (r0.2.map int), .sl r1.1 1 (r1.2.map int)], .v (.int .i64 k)] = some (.v (.bool (decide (at0 r1.2 k ≤ at0 r0.2 k)))) :=
  mk_eq (enc := fun (p : Bool × (Bool × List Int) × (Bool × List Int) × Nat) => [intss p.1 [p.2.1, p.2.2.1], int p.2.2.2]) (x := (nl, r0, r1, k)) (by
    rintro ⟨a, b, c, d⟩ ⟨a', b', c', d'⟩ h
    simp [intss, int, row_inj] at h
    have : d = d' := by omega
    simp [h, this]) h
end Go.Proofs.YtlkgppincgpfjaaDoor.Ax
