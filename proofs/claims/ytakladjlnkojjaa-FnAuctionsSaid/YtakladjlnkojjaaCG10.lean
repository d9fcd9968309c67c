/-
  Contracts: sums of fractions (both programs). No condition.
-/
import Derived.Test.YtakladjlnkojjaaCB2
namespace Go.Proofs.Ytakladjlnkojjaa.Ax
open Go Go.RowKit
set_option linter.unusedSimpArgs false

/-- A quotient in lowest terms, if it is valid (b: more than 0). -/
def mkF (t b : Int) : (Int × Int) × Bool := if fracOk (t.tdiv (Int.gcd t b), b.tdiv (Int.gcd t b)) = true then ((t.tdiv (Int.gcd t b), b.tdiv (Int.gcd t b)), true) else ((0, 0), false)
def redF (t b : Int) : (Int × Int) × Bool := if b < 0 then mkF (-t) (-b) else mkF t b

theorem tdiv_bd {x y m : Int} (h1 : -m ≤ x) (h2 : x ≤ m) : -m ≤ x.tdiv y ∧ x.tdiv y ≤ m := by
  have : (x.tdiv y).natAbs ≤ x.natAbs := by rw [Int.natAbs_tdiv]; exact Nat.div_le_self _ _
  omega
theorem gcd_bd {x y : Int} (h : y ≠ 0) : 0 < (Int.gcd x y : Int) ∧ (Int.gcd x y : Int) ≤ y.natAbs := by
  have h1 : 0 < Int.gcd x y := Int.gcd_pos_of_ne_zero_right _ h
  have h2 : Int.gcd x y ∣ y.natAbs := Nat.gcd_dvd_right _ _
  have := Nat.le_of_dvd (by omega) h2
  omega


noncomputable def mRed : List AV → Option AV := mk (fun p => -4611686018427387904 ≤ p.1 ∧ p.1 ≤ 4611686018427387904 ∧ -4611686018427387904 ≤ p.2 ∧ p.2 ≤ 4611686018427387904 ∧ p.2 ≠ 0) (fun (p : (Int) × (Int)) => [int p.1, int p.2]) (fun p => .tup [.agg [.v (.int .i64 (redF p.1 p.2).1.1), .v (.int .i64 (redF p.1 p.2).1.2)], .v (.bool (redF p.1 p.2).2)])
theorem mRed_at (t : Int) (b : Int) (hpre : -4611686018427387904 ≤ t ∧ t ≤ 4611686018427387904 ∧ -4611686018427387904 ≤ b ∧ b ≤ 4611686018427387904 ∧ b ≠ 0) : mRed [.v (.int .i64 t), .v (.int .i64 b)] = some (.tup [.agg [.v (.int .i64 (redF t b).1.1), .v (.int .i64 (redF t b).1.2)], .v (.bool (redF t b).2)]) :=
  mk_eq (enc := fun (p : (Int) × (Int)) => [int p.1, int p.2]) (x := (t, b)) (by rintro ⟨a0, a1⟩ ⟨b0, b1⟩ h; simp [ints, intss, int, bool, row, frac, fracs, map_int_inj, map_row_inj, frac_inj, map_frac_inj] at h; simp [h]) hpre

noncomputable def mMk : List AV → Option AV := mk (fun p => -4611686018427387904 ≤ p.1 ∧ p.1 ≤ 4611686018427387904 ∧ 0 < p.2 ∧ p.2 ≤ 4611686018427387904) (fun (p : (Int) × (Int)) => [int p.1, int p.2]) (fun p => .tup [.agg [.v (.int .i64 (mkF p.1 p.2).1.1), .v (.int .i64 (mkF p.1 p.2).1.2)], .v (.bool (mkF p.1 p.2).2)])
theorem mMk_at (t : Int) (b : Int) (hpre : -4611686018427387904 ≤ t ∧ t ≤ 4611686018427387904 ∧ 0 < b ∧ b ≤ 4611686018427387904) : mMk [.v (.int .i64 t), .v (.int .i64 b)] = some (.tup [.agg [.v (.int .i64 (mkF t b).1.1), .v (.int .i64 (mkF t b).1.2)], .v (.bool (mkF t b).2)]) :=
  mk_eq (enc := fun (p : (Int) × (Int)) => [int p.1, int p.2]) (x := (t, b)) (by rintro ⟨a0, a1⟩ ⟨b0, b1⟩ h; simp [ints, intss, int, bool, row, frac, fracs, map_int_inj, map_row_inj, frac_inj, map_frac_inj] at h; simp [h]) hpre

set_option maxHeartbeats 1000000 in
theorem reduced_ok : FnOk Try.prog 58 mRed := by
  refine mk_ok fun ⟨t, b⟩ ⟨h1, h2, h3, h4, h5⟩ => ?_
  simp only at h1 h2 h3 h4 h5
  obtain ⟨g1, g2⟩ := gcd_bd (x := t) h5
  have hg := mGcd_at (-4611686018427387904) t b h1 h2 h3 h4
  have hG : FnsOk Try.prog [(88, (mGcd (-4611686018427387904))), (67, mFracOk)] := (.cons gcd_ok (.cons implFractionOk_ok .nil))
  refine callOk_awp (ctx_ok eqOk hG) mixed (live := [true, true, false, false, true, true, true, true, false, false, false, false, true, false, false, false, false, false, false, false, false, false, false, false, true]) (dt := [(4, ⟨[], [0, 0, 0, 0, 0, 0, 0, 1], []⟩)]) Try.func58 rfl (by kernel_rfl) (by kernel_rfl) fun w0 hlens => ?_
  by_cases hb : b < 0
  · have hr : redF t b = mkF (-t) (-b) := by simp [redF, hb]
    have e1 : t.tdiv (-(Int.gcd t b : Int)) = (-t).tdiv (Int.gcd t b) := by rw [Int.tdiv_neg, Int.neg_tdiv]
    have e2 : b.tdiv (-(Int.gcd t b : Int)) = (-b).tdiv (Int.gcd t b) := by rw [Int.tdiv_neg, Int.neg_tdiv]
    have eg : Int.gcd (-t) (-b) = Int.gcd t b := by simp [Int.gcd]
    rw [hr]; unfold mkF; rw [eg]
    have w0 : IntKind.i64.wrap (-(Int.gcd t b : Int)) = -(Int.gcd t b : Int) := wrapI (by omega) (by omega)
    have w1 : IntKind.i64.wrap ((-t).tdiv (Int.gcd t b)) = (-t).tdiv (Int.gcd t b) := by have := tdiv_bd (x := -t) (y := Int.gcd t b) (m := 4611686018427387904) (by omega) (by omega); exact wrapI (by omega) (by omega)
    have w2 : IntKind.i64.wrap ((-b).tdiv (Int.gcd t b)) = (-b).tdiv (Int.gcd t b) := by have := tdiv_bd (x := -b) (y := Int.gcd t b) (m := 4611686018427387904) (by omega) (by omega); exact wrapI (by omega) (by omega)
    generalize (Int.gcd t b : Int) = g at *
    have hne : ¬ -g = 0 := by omega
    have hne' : ¬ g = 0 := by omega
    generalize (-t).tdiv g = p at *
    generalize (-b).tdiv g = q at *
    cases hf : fracOk (p, q) <;> simp (config := {contextual := true}) [Try.f58, List.range, List.range.loop, ints, intss, int, bool, row, frac, fracs, ← List.map_take, ← List.map_drop, hg, hb, w0, hne, hne', e1, e2, w1, w2, mFracOk_at, hf]
  · have hr : redF t b = mkF t b := by simp [redF, hb]
    rw [hr]; unfold mkF
    have w1 : IntKind.i64.wrap (t.tdiv (Int.gcd t b)) = t.tdiv (Int.gcd t b) := by have := tdiv_bd (x := t) (y := Int.gcd t b) (m := 4611686018427387904) (by omega) (by omega); exact wrapI (by omega) (by omega)
    have w2 : IntKind.i64.wrap (b.tdiv (Int.gcd t b)) = b.tdiv (Int.gcd t b) := by have := tdiv_bd (x := b) (y := Int.gcd t b) (m := 4611686018427387904) (by omega) (by omega); exact wrapI (by omega) (by omega)
    generalize (Int.gcd t b : Int) = g at *
    have hne' : ¬ g = 0 := by omega
    generalize hp1 : t.tdiv g = p at *
    generalize hq1 : b.tdiv g = q at *
    cases hf : fracOk (p, q) <;> simp (config := {contextual := true}) [Try.f58, List.range, List.range.loop, ints, intss, int, bool, row, frac, fracs, ← List.map_take, ← List.map_drop, hg, hb, hne', hp1, hq1, w1, w2, mFracOk_at, hf]

noncomputable def mTwo : List AV → Option AV := mk (fun _ => True) (fun (p : (Int) × (Int) × (Int) × (Int)) => [frac (p.1, p.2.1), frac (p.2.2.1, p.2.2.2)]) (fun p => bool (fracOk (p.1, p.2.1) && fracOk (p.2.2.1, p.2.2.2)))
theorem mTwo_at (a : Int) (b : Int) (c : Int) (d : Int) : mTwo [.agg [.v (.int .i64 a), .v (.int .i64 b)], .agg [.v (.int .i64 c), .v (.int .i64 d)]] = some (.v (.bool (fracOk (a, b) && fracOk (c, d)))) :=
  mk_eq (enc := fun (p : (Int) × (Int) × (Int) × (Int)) => [frac (p.1, p.2.1), frac (p.2.2.1, p.2.2.2)]) (x := (a, b, c, d)) (by rintro ⟨a0, a1, a2, a3⟩ ⟨b0, b1, b2, b3⟩ h; simp [ints, intss, int, bool, row, frac, fracs, map_int_inj, map_row_inj, frac_inj, map_frac_inj] at h; simp [h]) trivial
/-- The sum of two fractions, and whether it is valid. -/
def addF (x y : Int × Int) : (Int × Int) × Bool := if fracOk x && fracOk y then mkF (x.1 * y.2 + y.1 * x.2) (x.2 * y.2) else ((0, 0), false)
noncomputable def mAdd : List AV → Option AV := mk (fun _ => True) (fun (p : (Int) × (Int) × (Int) × (Int)) => [frac (p.1, p.2.1), frac (p.2.2.1, p.2.2.2)]) (fun p => .tup [.agg [.v (.int .i64 (addF (p.1, p.2.1) (p.2.2.1, p.2.2.2)).1.1), .v (.int .i64 (addF (p.1, p.2.1) (p.2.2.1, p.2.2.2)).1.2)], .v (.bool (addF (p.1, p.2.1) (p.2.2.1, p.2.2.2)).2)])
theorem mAdd_at (a : Int) (b : Int) (c : Int) (d : Int) : mAdd [.agg [.v (.int .i64 a), .v (.int .i64 b)], .agg [.v (.int .i64 c), .v (.int .i64 d)]] = some (.tup [.agg [.v (.int .i64 (addF (a, b) (c, d)).1.1), .v (.int .i64 (addF (a, b) (c, d)).1.2)], .v (.bool (addF (a, b) (c, d)).2)]) :=
  mk_eq (enc := fun (p : (Int) × (Int) × (Int) × (Int)) => [frac (p.1, p.2.1), frac (p.2.2.1, p.2.2.2)]) (x := (a, b, c, d)) (by rintro ⟨a0, a1, a2, a3⟩ ⟨b0, b1, b2, b3⟩ h; simp [ints, intss, int, bool, row, frac, fracs, map_int_inj, map_row_inj, frac_inj, map_frac_inj] at h; simp [h]) trivial

theorem fracOk_bd {x : Int × Int} (h : fracOk x = true) : -1000000000 ≤ x.1 ∧ x.1 ≤ 1000000000 ∧ 1 ≤ x.2 ∧ x.2 ≤ 1000000000 := by
  simp only [fracOk, Bool.and_eq_true, decide_eq_true_eq] at h; omega
theorem mul_bd {x y m n : Int} (h1 : -m ≤ x) (h2 : x ≤ m) (h3 : -n ≤ y) (h4 : y ≤ n) : -(m * n) ≤ x * y ∧ x * y ≤ m * n := by
  have hx : (x.natAbs : Int) ≤ m := by omega
  have hy : (y.natAbs : Int) ≤ n := by omega
  have : (x * y).natAbs = x.natAbs * y.natAbs := Int.natAbs_mul _ _
  have h5 : (x.natAbs : Int) * y.natAbs ≤ m * n := Int.mul_le_mul hx hy (by omega) (by omega)
  have h6 : ((x * y).natAbs : Int) = (x.natAbs : Int) * y.natAbs := by rw [this]; simp
  omega
theorem mul_pos1 {x y : Int} (h1 : 1 ≤ x) (h2 : 1 ≤ y) : 0 < x * y := Int.mul_pos (by omega) (by omega)

set_option maxHeartbeats 2000000 in
theorem implAdd_ok : FnOk Try.prog 61 mAdd := by
  refine mk_ok fun ⟨a, b, c, d⟩ _ => ?_
  have hG : FnsOk Try.prog [(67, mFracOk), (58, mRed)] := (.cons implFractionOk_ok (.cons reduced_ok .nil))
  refine callOk_awp (ctx_ok eqOk hG) mixed (live := [true, true, true, true, true, true, false, false, false, false, false, false, false, true]) (dt := []) Try.func61 rfl (by kernel_rfl) (by kernel_rfl) fun w0 hlens => ?_
  cases h1 : fracOk (a, b) with
  | false => simp (config := {contextual := true}) [Try.f61, List.range, List.range.loop, ints, intss, int, bool, row, frac, fracs, ← List.map_take, ← List.map_drop, mFracOk_at, mTwo_at, h1, addF]
  | true =>
  cases h2 : fracOk (c, d) with
  | false => simp (config := {contextual := true}) [Try.f61, List.range, List.range.loop, ints, intss, int, bool, row, frac, fracs, ← List.map_take, ← List.map_drop, mFracOk_at, mTwo_at, h1, h2, addF]
  | true =>
  have b1 := fracOk_bd h1
  have b2 := fracOk_bd h2
  simp only at b1 b2
  have m1 := mul_bd (x := a) (y := d) (m := 1000000000) (n := 1000000000) (by omega) (by omega) (by omega) (by omega)
  have m2 := mul_bd (x := c) (y := b) (m := 1000000000) (n := 1000000000) (by omega) (by omega) (by omega) (by omega)
  have m3 := mul_bd (x := b) (y := d) (m := 1000000000) (n := 1000000000) (by omega) (by omega) (by omega) (by omega)
  have p3 := mul_pos1 (x := b) (y := d) (by omega) (by omega)
  have ha : addF (a, b) (c, d) = mkF (a * d + c * b) (b * d) := by simp [addF, h1, h2]
  rw [ha]
  have w1 : IntKind.i64.wrap (a * d) = a * d := wrapI (by omega) (by omega)
  have w2 : IntKind.i64.wrap (c * b) = c * b := wrapI (by omega) (by omega)
  have w3 : IntKind.i64.wrap (b * d) = b * d := wrapI (by omega) (by omega)
  have w4 : IntKind.i64.wrap (a * d + c * b) = a * d + c * b := wrapI (by omega) (by omega)
  have hz := mMk_at (a * d + c * b) (b * d) ⟨by omega, by omega, by omega, by omega⟩
  have hz2 := mRed_at (a * d + c * b) (b * d) ⟨by omega, by omega, by omega, by omega, by omega⟩
  have hrr : redF (a * d + c * b) (b * d) = mkF (a * d + c * b) (b * d) := by unfold redF; rw [if_neg (by omega)]
  rw [hrr] at hz2
  simp (config := {contextual := true}) [Try.f61, List.range, List.range.loop, ints, intss, int, bool, row, frac, fracs, ← List.map_take, ← List.map_drop, mFracOk_at, mTwo_at, h1, h2, w1, w2, w3, w4, hz, hz2]

theorem addF_ok {x y : Int × Int} (h : (addF x y).2 = false) : addF x y = ((0, 0), false) := by
  unfold addF mkF at h ⊢
  split
  · rename_i h1
    rw [if_pos h1] at h
    split
    · rename_i h2; rw [if_pos h2] at h; simp at h
    · rfl
  · rfl

/-- The sum of the first k fractions, and whether all sums up to there are valid. -/
def sumTo (fs : List (Int × Int)) : Nat → (Int × Int) × Bool
  | 0 => ((0, 1), true)
  | k + 1 => if (sumTo fs k).2 = true then addF (sumTo fs k).1 (fs.getD k (0, 0)) else ((0, 0), false)
def sumF (fs : List (Int × Int)) : (Int × Int) × Bool := if 100 < fs.length then ((0, 0), false) else sumTo fs fs.length
theorem sumTo_false {fs : List (Int × Int)} {k : Nat} (h : (sumTo fs k).2 = false) : ∀ n, k ≤ n → (sumTo fs n) = ((0, 0), false) ∨ (n = k ∧ (sumTo fs n).2 = false)
  | 0, hn => by
    have : k = 0 := by omega
    subst this; exact .inr ⟨rfl, h⟩
  | n + 1, hn => by
    by_cases e : k = n + 1
    · subst e; exact .inr ⟨rfl, h⟩
    · rcases sumTo_false h n (by omega) with h1 | ⟨_, h1⟩
      · left; rw [sumTo, h1]; simp
      · left; rw [sumTo, h1]; simp
theorem sumTo_bad {fs : List (Int × Int)} {k n : Nat} (hk : 0 < k) (h : (sumTo fs k).2 = false) (hn : k ≤ n) : sumTo fs n = ((0, 0), false) := by
  rcases sumTo_false h n hn with h1 | ⟨rfl, _⟩
  · exact h1
  · obtain ⟨m, rfl⟩ : ∃ m, n = m + 1 := ⟨n - 1, by omega⟩
    rw [sumTo] at h ⊢
    split
    · rename_i h1; rw [if_pos h1] at h; exact addF_ok h
    · rfl

noncomputable def mSumF : List AV → Option AV := mk (fun _ => True) (fun (p : (Bool) × (List (Int × Int))) => [fracs p.1 p.2]) (fun p => .tup [.agg [.v (.int .i64 (sumF p.2).1.1), .v (.int .i64 (sumF p.2).1.2)], .v (.bool (sumF p.2).2)])
theorem mSumF_at (nl : Bool) (fs : List (Int × Int)) : mSumF [.sl nl 2 (fs.map frac)] = some (.tup [.agg [.v (.int .i64 (sumF fs).1.1), .v (.int .i64 (sumF fs).1.2)], .v (.bool (sumF fs).2)]) :=
  mk_eq (enc := fun (p : (Bool) × (List (Int × Int))) => [fracs p.1 p.2]) (x := (nl, fs)) (by rintro ⟨a0, a1⟩ ⟨b0, b1⟩ h; simp [ints, intss, int, bool, row, frac, fracs, map_int_inj, map_row_inj, frac_inj, map_frac_inj] at h; simp [h]) trivial

end Go.Proofs.Ytakladjlnkojjaa.Ax
