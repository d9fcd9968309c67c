/-
  Contracts: claims are compared (both programs). No condition.
-/
import Derived.Test.YtiieikknhheffaaDoorCG7
namespace Go.Proofs.YtiieikknhheffaaDoor.Ax
open Go Go.RowKit
set_option linter.unusedSimpArgs false

structure ClI (me x a : Int) : Prop where
  m : 1 ≤ me ∧ me ≤ 5
  x : 0 ≤ x ∧ x ≤ 1000000
  a : 0 ≤ a ∧ a ≤ 100
theorem mul_bd0 {x y m n : Int} (hx : 0 ≤ x ∧ x ≤ m) (hy : 0 ≤ y ∧ y ≤ n) : 0 ≤ x * y ∧ x * y ≤ m * n :=
  ⟨Int.mul_nonneg hx.1 hy.1, Int.mul_le_mul hx.2 hy.2 hy.1 (by omega)⟩
theorem clm_bd {me x a : Int} (h : ClI me x a) : (0 ≤ (clm me x a).1 ∧ (clm me x a).1 ≤ 1000000000000) ∧ (0 ≤ (clm me x a).2 ∧ (clm me x a).2 ≤ 20200) := by
  obtain ⟨hm, hx, ha⟩ := h
  have e1 := mul_bd0 hx (show 0 ≤ 2 * a + 1 ∧ 2 * a + 1 ≤ 201 by omega)
  have e2 := mul_bd0 (show 0 ≤ 2 * a ∧ 2 * a ≤ 200 by omega) (show 0 ≤ a + 1 ∧ a + 1 ≤ 101 by omega)
  have e3 := mul_bd0 hx hx
  have e4 := mul_bd0 ha (show 0 ≤ a + 1 ∧ a + 1 ≤ 101 by omega)
  unfold clm
  split
  · exact ⟨⟨hx.1, by simp only; omega⟩, ha.1, by simp only; omega⟩
  · split
    · exact ⟨⟨e1.1, by simp only; omega⟩, e2.1, by simp only; omega⟩
    · split
      · exact ⟨⟨e3.1, by simp only; omega⟩, e4.1, by simp only; omega⟩
      · split <;> exact ⟨⟨by simp only; omega, by simp only; omega⟩, by simp only; omega, by simp only; omega⟩
theorem clm_pos {me x a : Int} (h : ClI me x a) : ((clm me x a).1 = 0 ↔ x = 0) := by
  obtain ⟨hm, hx, ha⟩ := h
  unfold clm
  split
  · rfl
  · split
    · simp only
      constructor
      · intro h; rcases Int.mul_eq_zero.1 h with h | h <;> omega
      · intro h; simp [h]
    · split
      · simp only
        constructor
        · intro h; rcases Int.mul_eq_zero.1 h with h | h <;> exact h
        · intro h; subst h; rfl
      · split <;> (try simp only) <;> (try omega)

noncomputable def mClmC : List AV → Option AV := mk (fun p => ClI p.1 p.2.1 p.2.2) (fun (p : Int × Int × Int) => [int p.2.1, int p.2.2, .fp (int p.1) 0]) (fun p => .tup [int (clm p.1 p.2.1 p.2.2).1, int (clm p.1 p.2.1 p.2.2).2])
theorem mClmC_at (me x a : Int) (h : ClI me x a) : mClmC [.v (.int .i64 x), .v (.int .i64 a), .fp (.v (.int .i64 me)) 0] = some (.tup [.v (.int .i64 (clm me x a).1), .v (.int .i64 (clm me x a).2)]) :=
  mk_eq (enc := fun (p : Int × Int × Int) => [int p.2.1, int p.2.2, .fp (int p.1) 0]) (f := fun p => .tup [int (clm p.1 p.2.1 p.2.2).1, int (clm p.1 p.2.1 p.2.2).2]) (x := (me, x, a)) (by
    rintro ⟨a, b, c⟩ ⟨a', b', c'⟩ h
    simp [int] at h
    simp [h]) h
set_option maxHeartbeats 2000000 in
theorem claim1_ok : FnOk Tryd.prog 65 mClmC := by
  refine mk_ok fun ⟨me, x, a⟩ h => ?_
  have hb := clm_bd h
  obtain ⟨hm, hx, ha⟩ := h
  simp only at hm hx ha
  have hG : FnsOk Tryd.prog [] := .nil
  refine callOk_awp (ctx_ok eqOk hG) mixed (live := [true, true, true, false, false, true, true, true, true, false, false, false, true, false, false, false, false, false, false, false, false, false, false, false, true, false, false, false, false, false, false, false, false, true]) (dt := []) Tryd.func65 rfl (by kernel_rfl) (by kernel_rfl) fun w0 hlens => ?_
  clear hlens
  have e1 := mul_bd0 hx (show 0 ≤ 2 * a + 1 ∧ 2 * a + 1 ≤ 201 by omega)
  have e2 := mul_bd0 (show 0 ≤ 2 * a ∧ 2 * a ≤ 200 by omega) (show 0 ≤ a + 1 ∧ a + 1 ≤ 101 by omega)
  have e3 := mul_bd0 hx hx
  have e4 := mul_bd0 ha (show 0 ≤ a + 1 ∧ a + 1 ≤ 101 by omega)
  have w1 : IntKind.i64.wrap (x * (2 * a + 1)) = x * (2 * a + 1) := wrapI (by omega) (by omega)
  have w2 : IntKind.i64.wrap (2 * a * (a + 1)) = 2 * a * (a + 1) := wrapI (by omega) (by omega)
  have w3 : IntKind.i64.wrap (x * x) = x * x := wrapI (by omega) (by omega)
  have w4 : IntKind.i64.wrap (a * (a + 1)) = a * (a + 1) := wrapI (by omega) (by omega)
  have w5 : IntKind.i64.wrap (2 * a) = 2 * a := wrapI (by omega) (by omega)
  have w6 : IntKind.i64.wrap (2 * a + 1) = 2 * a + 1 := wrapI (by omega) (by omega)
  have w7 : IntKind.i64.wrap (a + 1) = a + 1 := wrapI (by omega) (by omega)
  have w8 : IntKind.i64.wrap (2 * x) = 2 * x := wrapI (by omega) (by omega)
  by_cases m1 : me = 1
  · subst m1; simp [Tryd.f65, List.range, List.range.loop, ints, intss, int, bool, row, frac, fracs, ← List.map_take, ← List.map_drop, clm]
  by_cases m2 : me = 2
  · subst m2; simp [Tryd.f65, List.range, List.range.loop, ints, intss, int, bool, row, frac, fracs, ← List.map_take, ← List.map_drop, clm, w1, w2, w5, w6, w7]
  by_cases m3 : me = 3
  · subst m3; simp [Tryd.f65, List.range, List.range.loop, ints, intss, int, bool, row, frac, fracs, ← List.map_take, ← List.map_drop, clm, w3, w4, w7]
  by_cases m4 : me = 4
  · subst m4; simp [Tryd.f65, List.range, List.range.loop, ints, intss, int, bool, row, frac, fracs, ← List.map_take, ← List.map_drop, clm, w5, w6, w8]
  simp [Tryd.f65, List.range, List.range.loop, ints, intss, int, bool, row, frac, fracs, ← List.map_take, ← List.map_drop, clm, m1, m2, m3, m4, w7]

theorem cmpT_cases {me x a y b : Int} (hx : ClI me x a) (hy : ClI me y b) :
    cmpT me x a y b = (if (clm me x a).2 = 0 ∧ (clm me y b).2 = 0 then cmpI x y else if (clm me x a).2 = 0 then cmpI x (if x = 0 then y else 0) else if (clm me y b).2 = 0 then cmpI (if y = 0 then x else 0) y else cmpI ((clm me x a).1 * (clm me y b).2) ((clm me y b).1 * (clm me x a).2)) := by
  have b1 := clm_bd hx
  have b2 := clm_bd hy
  have z1 := clm_pos hx
  have z2 := clm_pos hy
  have hx0 := hx.x
  have hy0 := hy.x
  unfold cmpT
  generalize clm me x a = u at *
  generalize clm me y b = v at *
  obtain ⟨t, p⟩ := u
  obtain ⟨o, r⟩ := v
  simp only at *
  by_cases hp : p = 0 <;> by_cases hr : r = 0
  · simp [hp, hr]
  · by_cases h0 : x = 0
    · simp [hp, hr, h0]
    · by_cases h1 : y = 0
      · simp [hp, hr, h0, h1]
      · have : ¬ x < 0 := by omega
        have h3 : 0 < x := by omega
        simp [hp, hr, h0, h1, cmpI, this, h3]
  · by_cases h0 : y = 0
    · simp [hp, hr, h0]
    · by_cases h1 : x = 0
      · simp [hp, hr, h0, h1]
      · have : 0 < y := by omega
        simp [hp, hr, h0, h1, cmpI, this]
  · have hp' : 0 < p := by omega
    have hr' : 0 < r := by omega
    by_cases h0 : x = 0
    · have ht : t = 0 := z1.2 h0
      by_cases h1 : y = 0
      · have ho : o = 0 := z2.2 h1
        simp [hp, hr, h0, h1, ht, ho]
      · have ho : 0 < o := by
          have : ¬ o = 0 := fun h => h1 (z2.1 h)
          omega
        have := Int.mul_pos ho hp'
        have h3 : 0 < y := by omega
        simp [hp, hr, h0, h1, ht, cmpI, this, h3]
    · by_cases h1 : y = 0
      · have ho : o = 0 := z2.2 h1
        have ht : 0 < t := by
          have : ¬ t = 0 := fun h => h0 (z1.1 h)
          omega
        have := Int.mul_pos ht hr'
        have h3 : 0 < x := by omega
        have h4 : ¬ t * r < 0 := by omega
        have h5 : ¬ x < 0 := by omega
        simp [hp, hr, h0, h1, ho, cmpI, this, h3, h4, h5]
      · simp [hp, hr, h0, h1]

noncomputable def mCmpT : List AV → Option AV := mk (fun p => ClI p.1 p.2.1 p.2.2.1 ∧ ClI p.1 p.2.2.2.1 p.2.2.2.2) (fun (p : (Int) × (Int) × (Int) × (Int) × (Int)) => [int p.1, int p.2.1, int p.2.2.1, int p.2.2.2.1, int p.2.2.2.2]) (fun p => int (cmpT p.1 p.2.1 p.2.2.1 p.2.2.2.1 p.2.2.2.2))
theorem mCmpT_at (me : Int) (x : Int) (a : Int) (y : Int) (b : Int) (hpre : ClI me x a ∧ ClI me y b) : mCmpT [.v (.int .i64 me), .v (.int .i64 x), .v (.int .i64 a), .v (.int .i64 y), .v (.int .i64 b)] = some (.v (.int .i64 (cmpT me x a y b))) :=
  mk_eq (enc := fun (p : (Int) × (Int) × (Int) × (Int) × (Int)) => [int p.1, int p.2.1, int p.2.2.1, int p.2.2.2.1, int p.2.2.2.2]) (x := (me, x, a, y, b)) (by rintro ⟨a0, a1, a2, a3, a4⟩ ⟨b0, b1, b2, b3, b4⟩ h; simp [ints, intss, int, bool, row, frac, fracs, map_int_inj, map_row_inj, frac_inj, map_frac_inj] at h; simp [h]) hpre
set_option maxHeartbeats 2000000 in
theorem implCmpT_ok : FnOk Tryd.prog 55 mCmpT := by
  refine mk_ok fun ⟨me, x, a, y, b⟩ ⟨h1, h2⟩ => ?_
  simp only at h1 h2
  have hG : FnsOk Tryd.prog [(66, mCmpI), (65, mClmC)] := (.cons cmpCompare_ok (.cons claim1_ok .nil))
  refine callOk_awp (ctx_ok eqOk hG) mixed (live := [true, true, true, true, true, true, false, false, false, false, true, true, true, true, true, true, false, false, false, false, false, false, false, false, false, false, false, false, false, false, false, true, false, false, false, false, false, false, false, false, false, true, false, false, false, false, false, false, false, false, false, true, false, false, true]) (dt := []) Tryd.func55 rfl (by kernel_rfl) (by kernel_rfl) fun w0 hlens => ?_
  clear hlens
  have m1 := mClmC_at me x a h1
  have m2 := mClmC_at me y b h2
  obtain ⟨⟨b1, b2⟩, b3, b4⟩ := clm_bd h1
  obtain ⟨⟨d1, d2⟩, d3, d4⟩ := clm_bd h2
  have tyF : tyOf Tryd.prog 58 = some (⟨.func #[3, 3] #[3, 3] false, 1, 8, .nilFunc⟩ : TI) := by kernel_rfl
  unfold cmpT
  generalize clm me x a = u at *
  generalize clm me y b = v at *
  obtain ⟨t, p⟩ := u
  obtain ⟨o, r⟩ := v
  simp only at *
  have e1 := mul_bd0 (show 0 ≤ t ∧ t ≤ 1000000000000 from ⟨b1, b2⟩) (show 0 ≤ r ∧ r ≤ 20200 from ⟨d3, d4⟩)
  have e2 := mul_bd0 (show 0 ≤ o ∧ o ≤ 1000000000000 from ⟨d1, d2⟩) (show 0 ≤ p ∧ p ≤ 20200 from ⟨b3, b4⟩)
  have w1 : IntKind.i64.wrap (t * r) = t * r := wrapI (by omega) (by omega)
  have w2 : IntKind.i64.wrap (o * p) = o * p := wrapI (by omega) (by omega)
  by_cases hx : x = 0
  · subst hx
    simp [Tryd.f55, List.range, List.range.loop, ints, intss, int, bool, row, frac, fracs, ← List.map_take, ← List.map_drop, m1, m2, mCmpI_at, tyF]
  by_cases hy : y = 0
  · subst hy
    simp [Tryd.f55, List.range, List.range.loop, ints, intss, int, bool, row, frac, fracs, ← List.map_take, ← List.map_drop, m1, m2, hx, mCmpI_at, tyF]
  by_cases hp : p = 0
  · by_cases hr : r = 0
    · simp [Tryd.f55, List.range, List.range.loop, ints, intss, int, bool, row, frac, fracs, ← List.map_take, ← List.map_drop, m1, m2, hx, hy, hp, hr, mCmpI_at, tyF]
    · have hr' : (r == 0) = false := by simpa using hr
      simp [Tryd.f55, List.range, List.range.loop, ints, intss, int, bool, row, frac, fracs, ← List.map_take, ← List.map_drop, m1, m2, hx, hy, hp, hr, hr', mCmpI_at, tyF]
  · have hp' : (p == 0) = false := by simpa using hp
    by_cases hr : r = 0
    · simp [Tryd.f55, List.range, List.range.loop, ints, intss, int, bool, row, frac, fracs, ← List.map_take, ← List.map_drop, m1, m2, hx, hy, hp, hp', hr, mCmpI_at, tyF]
    · have hr' : (r == 0) = false := by simpa using hr
      simp [Tryd.f55, List.range, List.range.loop, ints, intss, int, bool, row, frac, fracs, ← List.map_take, ← List.map_drop, m1, m2, hx, hy, hp, hp', hr, hr', mCmpI_at, tyF, w1, w2]

/-- A signpost, as the reference has it. -/
def pst (me a : Int) : Int × Int := if me = 1 then (a, 1) else if me = 2 then (2 * a * (a + 1), 2 * a + 1) else if me = 3 then (a * (a + 1), 1) else if me = 4 then (2 * a + 1, 2) else (a + 1, 1)
noncomputable def mPst : List AV → Option AV := mk (fun p => (1 ≤ p.1 ∧ p.1 ≤ 5) ∧ 0 ≤ p.2 ∧ p.2 ≤ 100) (fun (p : (Int) × (Int)) => [int p.1, int p.2]) (fun p => .tup [.v (.int .i64 (pst p.1 p.2).1), .v (.int .i64 (pst p.1 p.2).2)])
theorem mPst_at (me : Int) (a : Int) (hpre : (1 ≤ me ∧ me ≤ 5) ∧ 0 ≤ a ∧ a ≤ 100) : mPst [.v (.int .i64 me), .v (.int .i64 a)] = some (.tup [.v (.int .i64 (pst me a).1), .v (.int .i64 (pst me a).2)]) :=
  mk_eq (enc := fun (p : (Int) × (Int)) => [int p.1, int p.2]) (x := (me, a)) (by rintro ⟨a0, a1⟩ ⟨b0, b1⟩ h; simp [ints, intss, int, bool, row, frac, fracs, map_int_inj, map_row_inj, frac_inj, map_frac_inj] at h; simp [h]) hpre
set_option maxHeartbeats 2000000 in
theorem post_ok : FnOk Tryd.prog 63 mPst := by
  refine mk_ok fun ⟨me, a⟩ ⟨hm, ha⟩ => ?_
  simp only at hm ha
  have hG : FnsOk Tryd.prog [] := .nil
  refine callOk_awp (ctx_ok eqOk hG) mixed (live := [true, true, false, false, true, true, true, true, false, false, true, false, false, false, false, false, false, false, false, false, true, false, false, false, false, false, true]) (dt := []) Tryd.func63 rfl (by kernel_rfl) (by kernel_rfl) fun w0 hlens => ?_
  clear hlens
  have e2 := mul_bd0 (show 0 ≤ 2 * a ∧ 2 * a ≤ 200 by omega) (show 0 ≤ a + 1 ∧ a + 1 ≤ 101 by omega)
  have e4 := mul_bd0 ha (show 0 ≤ a + 1 ∧ a + 1 ≤ 101 by omega)
  have w2 : IntKind.i64.wrap (2 * a * (a + 1)) = 2 * a * (a + 1) := wrapI (by omega) (by omega)
  have w4 : IntKind.i64.wrap (a * (a + 1)) = a * (a + 1) := wrapI (by omega) (by omega)
  have w5 : IntKind.i64.wrap (2 * a) = 2 * a := wrapI (by omega) (by omega)
  have w6 : IntKind.i64.wrap (2 * a + 1) = 2 * a + 1 := wrapI (by omega) (by omega)
  have w7 : IntKind.i64.wrap (a + 1) = a + 1 := wrapI (by omega) (by omega)
  by_cases m1 : me = 1
  · subst m1; simp [Tryd.f63, List.range, List.range.loop, ints, intss, int, bool, row, frac, fracs, ← List.map_take, ← List.map_drop, pst]
  by_cases m2 : me = 2
  · subst m2; simp [Tryd.f63, List.range, List.range.loop, ints, intss, int, bool, row, frac, fracs, ← List.map_take, ← List.map_drop, pst, w2, w5, w6, w7]
  by_cases m3 : me = 3
  · subst m3; simp [Tryd.f63, List.range, List.range.loop, ints, intss, int, bool, row, frac, fracs, ← List.map_take, ← List.map_drop, pst, w4, w7]
  by_cases m4 : me = 4
  · subst m4; simp [Tryd.f63, List.range, List.range.loop, ints, intss, int, bool, row, frac, fracs, ← List.map_take, ← List.map_drop, pst, w5, w6]
  simp [Tryd.f63, List.range, List.range.loop, ints, intss, int, bool, row, frac, fracs, ← List.map_take, ← List.map_drop, pst, m1, m2, m3, m4, w7]

theorem pst_clm {me x a : Int} (hm : 1 ≤ me ∧ me ≤ 5) : (pst me a).1 = (clm me x a).2 ∧ (¬ me = 3 → x * (pst me a).2 = (clm me x a).1) ∧ (me = 3 → x * x = (clm me x a).1) ∧ (0 ≤ a → a ≤ 100 → 0 ≤ (pst me a).2 ∧ (pst me a).2 ≤ 201) := by
  unfold pst clm
  split
  · rename_i h; subst h; simp
  · split
    · rename_i h; subst h; simp; omega
    · split
      · rename_i h; subst h; simp
      · split
        · rename_i h; subst h; simp; omega
        · rename_i h1 h2 h3 h4
          simp [h3]
theorem cmp_end {l r : Int} : (l < r → -1 = cmpI l r) ∧ (r ≤ l → (r < l → 1 = cmpI l r) ∧ (l ≤ r → 0 = cmpI l r)) := by
  unfold cmpI
  refine ⟨fun h => by rw [if_pos h], fun h => ⟨fun h' => by rw [if_neg (by omega), if_pos h'], fun h' => by rw [if_neg (by omega), if_neg (by omega)]⟩⟩

end Go.Proofs.YtiieikknhheffaaDoor.Ax

/-
  Contracts: claims are compared (the reference). No condition.
-/
namespace Go.Proofs.YtiieikknhheffaaDoor.Ax
open Go Go.RowKit
set_option linter.unusedSimpArgs false

set_option maxHeartbeats 4000000 in
theorem specCmpT_ok : FnOk Tryd.prog 50 mCmpT := by
  refine mk_ok fun ⟨me, x, a, y, b⟩ ⟨h1, h2⟩ => ?_
  simp only at h1 h2
  have hG : FnsOk Tryd.prog [(63, mPst)] := (.cons post_ok .nil)
  refine callOk_awp (ctx_ok eqOk hG) mixed (live := [true, true, true, true, true, false, false, false, false, false, true, true, true, true, true, true, true, false, false, false, false, false, false, false, false, false, false, false, false, false, false, false, false, false, false, false, false, false, false, false, true, false, false, false, false, false, false, false, false, false, false, false, false, false, false, false, true, false, false, false, true, false, false, true, false, false, true, false, false, true, false, true, false, false, false, true]) (dt := []) Tryd.func50 rfl (by kernel_rfl) (by kernel_rfl) fun w0 hlens => ?_
  clear hlens
  have m1 := mPst_at me a ⟨h1.m, h1.a⟩
  have m2 := mPst_at me b ⟨h2.m, h2.a⟩
  obtain ⟨⟨b1, b2⟩, b3, b4⟩ := clm_bd h1
  obtain ⟨⟨d1, d2⟩, d3, d4⟩ := clm_bd h2
  obtain ⟨p1, p2, p3, p4⟩ := pst_clm (x := x) (a := a) h1.m
  obtain ⟨q1, q2, q3, q4⟩ := pst_clm (x := y) (a := b) h2.m
  have p4 := p4 h1.a.1 h1.a.2
  have q4 := q4 h2.a.1 h2.a.2
  rw [cmpT_cases h1 h2]
  generalize pst me a = f at *
  generalize pst me b = g at *
  generalize clm me x a = u at *
  generalize clm me y b = v at *
  obtain ⟨t, p⟩ := u
  obtain ⟨o, r⟩ := v
  obtain ⟨p', q⟩ := f
  obtain ⟨r', s⟩ := g
  simp only at *
  subst p1
  subst q1
  obtain ⟨hm, hx, -⟩ := h1
  obtain ⟨-, hy, -⟩ := h2
  have x1 := mul_bd0 hx p4
  have x2 := mul_bd0 (show 0 ≤ x * q ∧ x * q ≤ 1000000 * 201 from x1) (show 0 ≤ r' ∧ r' ≤ 20200 from ⟨d3, d4⟩)
  have y1 := mul_bd0 hy q4
  have y2 := mul_bd0 (show 0 ≤ y * s ∧ y * s ≤ 1000000 * 201 from y1) (show 0 ≤ p' ∧ p' ≤ 20200 from ⟨b3, b4⟩)
  have x3 := mul_bd0 hx hx
  have y3 := mul_bd0 hy hy
  have x4 := mul_bd0 (show 0 ≤ x * x ∧ x * x ≤ 1000000 * 1000000 from x3) (show 0 ≤ r' ∧ r' ≤ 20200 from ⟨d3, d4⟩)
  have y4 := mul_bd0 (show 0 ≤ y * y ∧ y * y ≤ 1000000 * 1000000 from y3) (show 0 ≤ p' ∧ p' ≤ 20200 from ⟨b3, b4⟩)
  have w1 : IntKind.i64.wrap (x * q) = x * q := wrapI (by omega) (by omega)
  have w2 : IntKind.i64.wrap (x * q * r') = x * q * r' := wrapI (by omega) (by omega)
  have w3 : IntKind.i64.wrap (y * s) = y * s := wrapI (by omega) (by omega)
  have w4 : IntKind.i64.wrap (y * s * p') = y * s * p' := wrapI (by omega) (by omega)
  have w5 : IntKind.i64.wrap (x * x) = x * x := wrapI (by omega) (by omega)
  have w6 : IntKind.i64.wrap (x * x * r') = x * x * r' := wrapI (by omega) (by omega)
  have w7 : IntKind.i64.wrap (y * y) = y * y := wrapI (by omega) (by omega)
  have w8 : IntKind.i64.wrap (y * y * p') = y * y * p' := wrapI (by omega) (by omega)
  have w0 : IntKind.i64.wrap 0 = 0 := by decide
  by_cases m3 : me = 3
  · have e1 := p3 m3
    have e2 := q3 m3
    subst e1
    subst e2
    subst m3
    by_cases hp : p' = 0
    · subst hp
      by_cases hr : r' = 0
      · subst hr
        simp (config := {maxSteps := 1000000}) [Tryd.f50, List.range, List.range.loop, ints, intss, int, bool, row, frac, fracs, ← List.map_take, ← List.map_drop, m1, m2, w0, w1, w2, w3, w4, w5, w6, w7, w8]
        exact cmp_end
      · have hr' : (r' == 0) = false := by simpa using hr
        by_cases h0 : x = 0
        · subst h0
          simp (config := {maxSteps := 1000000}) [Tryd.f50, List.range, List.range.loop, ints, intss, int, bool, row, frac, fracs, ← List.map_take, ← List.map_drop, m1, m2, w0, w1, w2, w3, w4, w5, w6, w7, w8, hr, hr']
          exact cmp_end
        · have h0' : (x == 0) = false := by simpa using h0
          simp (config := {maxSteps := 1000000}) [Tryd.f50, List.range, List.range.loop, ints, intss, int, bool, row, frac, fracs, ← List.map_take, ← List.map_drop, m1, m2, w0, w1, w2, w3, w4, w5, w6, w7, w8, hr, hr', h0, h0']
          exact cmp_end
    · have hp' : (p' == 0) = false := by simpa using hp
      by_cases hr : r' = 0
      · subst hr
        by_cases h0 : y = 0
        · subst h0
          simp (config := {maxSteps := 1000000}) [Tryd.f50, List.range, List.range.loop, ints, intss, int, bool, row, frac, fracs, ← List.map_take, ← List.map_drop, m1, m2, w0, w1, w2, w3, w4, w5, w6, w7, w8, hp, hp']
          exact cmp_end
        · have h0' : (y == 0) = false := by simpa using h0
          simp (config := {maxSteps := 1000000}) [Tryd.f50, List.range, List.range.loop, ints, intss, int, bool, row, frac, fracs, ← List.map_take, ← List.map_drop, m1, m2, w0, w1, w2, w3, w4, w5, w6, w7, w8, hp, hp', h0, h0']
          exact cmp_end
      · have hr' : (r' == 0) = false := by simpa using hr
        simp (config := {maxSteps := 1000000}) [Tryd.f50, List.range, List.range.loop, ints, intss, int, bool, row, frac, fracs, ← List.map_take, ← List.map_drop, m1, m2, w0, w1, w2, w3, w4, w5, w6, w7, w8, hp, hp', hr, hr']
        exact cmp_end
  · have e1 := p2 m3
    have e2 := q2 m3
    subst e1
    subst e2
    by_cases hp : p' = 0
    · subst hp
      by_cases hr : r' = 0
      · subst hr
        simp (config := {maxSteps := 1000000}) [Tryd.f50, List.range, List.range.loop, ints, intss, int, bool, row, frac, fracs, ← List.map_take, ← List.map_drop, m1, m2, w0, w1, w2, w3, w4, w5, w6, w7, w8, m3]
        exact cmp_end
      · have hr' : (r' == 0) = false := by simpa using hr
        by_cases h0 : x = 0
        · subst h0
          simp (config := {maxSteps := 1000000}) [Tryd.f50, List.range, List.range.loop, ints, intss, int, bool, row, frac, fracs, ← List.map_take, ← List.map_drop, m1, m2, w0, w1, w2, w3, w4, w5, w6, w7, w8, m3, hr, hr']
          exact cmp_end
        · have h0' : (x == 0) = false := by simpa using h0
          simp (config := {maxSteps := 1000000}) [Tryd.f50, List.range, List.range.loop, ints, intss, int, bool, row, frac, fracs, ← List.map_take, ← List.map_drop, m1, m2, w0, w1, w2, w3, w4, w5, w6, w7, w8, m3, hr, hr', h0, h0']
          exact cmp_end
    · have hp' : (p' == 0) = false := by simpa using hp
      by_cases hr : r' = 0
      · subst hr
        by_cases h0 : y = 0
        · subst h0
          simp (config := {maxSteps := 1000000}) [Tryd.f50, List.range, List.range.loop, ints, intss, int, bool, row, frac, fracs, ← List.map_take, ← List.map_drop, m1, m2, w0, w1, w2, w3, w4, w5, w6, w7, w8, m3, hp, hp']
          exact cmp_end
        · have h0' : (y == 0) = false := by simpa using h0
          simp (config := {maxSteps := 1000000}) [Tryd.f50, List.range, List.range.loop, ints, intss, int, bool, row, frac, fracs, ← List.map_take, ← List.map_drop, m1, m2, w0, w1, w2, w3, w4, w5, w6, w7, w8, m3, hp, hp', h0, h0']
          exact cmp_end
      · have hr' : (r' == 0) = false := by simpa using hr
        simp (config := {maxSteps := 1000000}) [Tryd.f50, List.range, List.range.loop, ints, intss, int, bool, row, frac, fracs, ← List.map_take, ← List.map_drop, m1, m2, w0, w1, w2, w3, w4, w5, w6, w7, w8, m3, hp, hp', hr, hr']
        exact cmp_end

end Go.Proofs.YtiieikknhheffaaDoor.Ax

/-
  Contracts: one seat after the other (both programs). No condition.
-/
namespace Go.Proofs.YtiieikknhheffaaDoor.Ax
open Go Go.RowKit
set_option linter.unusedSimpArgs false

theorem bcTo_bd {me : Int} {xs ss : List Int} {i : Nat} (hi : i < xs.length) : ∃ b : Nat, bcTo me xs ss i = b ∧ b < xs.length := by
  obtain ⟨b, h1, h2⟩ := bcTo_nat (me := me) (xs := xs) (ss := ss) i
  exact ⟨b, h1, by omega⟩

noncomputable def mL14Ok : List AV → Option AV := mk (fun _ => True) (fun (p : (Int) × (Bool) × (List Int) × (Int)) => [int p.1, ints p.2.1 p.2.2.1, int p.2.2.2]) (fun p => bool (qtB p.2.2.1 p.2.2.2 && inR 1 5 p.1))
theorem mL14Ok_at (me : Int) (nl : Bool) (xs : List Int) (n : Int) : mL14Ok [.v (.int .i64 me), .sl nl 1 (xs.map int), .v (.int .i64 n)] = some (.v (.bool (qtB xs n && inR 1 5 me))) :=
  mk_eq (enc := fun (p : (Int) × (Bool) × (List Int) × (Int)) => [int p.1, ints p.2.1 p.2.2.1, int p.2.2.2]) (x := (me, nl, xs, n)) (by rintro ⟨a0, a1, a2, a3⟩ ⟨b0, b1, b2, b3⟩ h; simp [ints, intss, int, bool, row, frac, fracs, map_int_inj, map_row_inj, frac_inj, map_frac_inj] at h; simp [h]) trivial
theorem l14Ok_ok : FnOk Tryd.prog 35 mL14Ok := by
  refine mk_ok fun ⟨me, nl, xs, n⟩ _ => ?_
  have hG : FnsOk Tryd.prog [(22, mWithin), (32, mQt)] := (.cons l01In_ok (.cons specQt_ok .nil))
  refine callOk_awp (ctx_ok eqOk hG) mixed (live := [true, true, true, false, false, false, true]) (dt := []) Tryd.func35 rfl (by kernel_rfl) (by kernel_rfl) fun w0 hlens => ?_
  clear hlens
  have h1 := mQt_at nl xs n
  cases hm : inR 1 5 me <;> cases hq : qtB xs n <;> rw [hq] at h1 <;> simp [Tryd.f35, List.range, List.range.loop, ints, intss, int, bool, row, frac, fracs, ← List.map_take, ← List.map_drop, mWithin_in, hm, h1]

noncomputable def mOrdS : List AV → Option AV := mk (fun _ => True) (fun (p : (Int) × (Bool) × (List Int) × (Int)) => [int p.1, ints p.2.1 p.2.2.1, int p.2.2.2]) (fun p => if (qtB p.2.2.1 p.2.2.2 && inR 1 5 p.1) = true then ints false (ordS p.1 p.2.2.1 p.2.2.2.toNat) else ints true [])
theorem mOrdS_at (me : Int) (nl : Bool) (xs : List Int) (n : Int) : mOrdS [.v (.int .i64 me), .sl nl 1 (xs.map int), .v (.int .i64 n)] = some (if (qtB xs n && inR 1 5 me) = true then ints false (ordS me xs n.toNat) else ints true []) :=
  mk_eq (enc := fun (p : (Int) × (Bool) × (List Int) × (Int)) => [int p.1, ints p.2.1 p.2.2.1, int p.2.2.2]) (x := (me, nl, xs, n)) (by rintro ⟨a0, a1, a2, a3⟩ ⟨b0, b1, b2, b3⟩ h; simp [ints, intss, int, bool, row, frac, fracs, map_int_inj, map_row_inj, frac_inj, map_frac_inj] at h; simp [h]) trivial
noncomputable def mOrdP : List AV → Option AV := mk (fun _ => True) (fun (p : (Int) × (Bool) × (List Int) × (Int)) => [int p.1, ints p.2.1 p.2.2.1, int p.2.2.2]) (fun p => if (qtB p.2.2.1 p.2.2.2 && inR 1 5 p.1) = true then ints (decide (p.2.2.2.toNat = 0)) (ordS p.1 p.2.2.1 p.2.2.2.toNat) else ints true [])
theorem mOrdP_at (me : Int) (nl : Bool) (xs : List Int) (n : Int) : mOrdP [.v (.int .i64 me), .sl nl 1 (xs.map int), .v (.int .i64 n)] = some (if (qtB xs n && inR 1 5 me) = true then ints (decide (n.toNat = 0)) (ordS me xs n.toNat) else ints true []) :=
  mk_eq (enc := fun (p : (Int) × (Bool) × (List Int) × (Int)) => [int p.1, ints p.2.1 p.2.2.1, int p.2.2.2]) (x := (me, nl, xs, n)) (by rintro ⟨a0, a1, a2, a3⟩ ⟨b0, b1, b2, b3⟩ h; simp [ints, intss, int, bool, row, frac, fracs, map_int_inj, map_row_inj, frac_inj, map_frac_inj] at h; simp [h]) trivial
theorem seat_cl {me : Int} {xs : List Int} {n : Int} (hv : (qtB xs n && inR 1 5 me) = true) {j : Nat} (hj : j < n.toNat) {i : Nat} (hi : i < xs.length) : ClI me (at0 xs i) (at0 (seatT me xs j) i) := by
  simp only [Bool.and_eq_true, inR_iff] at hv
  obtain ⟨hq, hm⟩ := hv
  obtain ⟨hc, hn⟩ := qt_facts hq
  obtain ⟨c1, c2, c3, c4, c5⟩ := cnt_facts hc
  obtain ⟨g1, g2, g3⟩ := seatT_facts (me := me) c1 j
  have hi2 : i < (seatT me xs j).length := by omega
  have e1 := at0_eq hi
  have e2 := at0_eq hi2
  have b1 := c3 _ (List.getElem_mem hi)
  have b2 := g3 _ (List.getElem_mem hi2)
  exact ⟨hm, by rw [e1]; exact b1, by rw [e2]; omega⟩

set_option maxHeartbeats 4000000 in
theorem specOrder_ok : FnOk Tryd.prog 37 mOrdS := by
  refine mk_ok fun ⟨me, nl, xs, n⟩ _ => ?_
  simp only
  have hG : FnsOk Tryd.prog [(35, mL14Ok), (50, mCmpT)] := (.cons l14Ok_ok (.cons specCmpT_ok .nil))
  refine callOk_awp (ctx_ok eqOk hG) mixed (live := [true, true, true, false, false, false, true, true, true, true, true, true, false, false, false, false, true, false, false, false, false, false, false, false, true, true, true, true, true, false, false, false, false, false, false, false, false, false, false, false, false, false, false, false, false, false, false, true]) (dt := [(10, ⟨[], [], []⟩)]) Tryd.func37 rfl (by kernel_rfl) (by kernel_rfl) fun w0 hlens => ?_
  clear hlens
  have h1 := mL14Ok_at me nl xs n
  by_cases hv : (qtB xs n && inR 1 5 me) = true
  case neg =>
    rw [if_neg hv]
    have hv' : (qtB xs n && inR 1 5 me) = false := by simpa using hv
    rw [hv'] at h1
    simp [Tryd.f37, List.range, List.range.loop, ints, intss, int, bool, row, frac, fracs, ← List.map_take, ← List.map_drop, h1]
  rw [if_pos hv]
  rw [hv] at h1
  have hcl := fun (j : Nat) (hj : j < n.toNat) (i : Nat) (hi : i < xs.length) => seat_cl hv hj hi
  simp only [Bool.and_eq_true, inR_iff] at hv
  obtain ⟨hq, hm⟩ := hv
  obtain ⟨hc, hn⟩ := qt_facts hq
  obtain ⟨c1, c2, c3, c4, c5⟩ := cnt_facts hc
  obtain ⟨N, rfl⟩ : ∃ N : Nat, n = N := ⟨n.toNat, by omega⟩
  simp only [Int.toNat_natCast] at *
  have hm6 : 8 * xs.length ≤ 281474976710656 := by omega
  have hm7 : xs.length * 8 ≤ 281474976710656 ∧ xs.length ≤ 4611686018427387904 := by omega
  have z0 : ordS me xs 0 = [] := rfl
  have z1 : seatT me xs 0 = List.replicate xs.length 0 := rfl
  simp [Tryd.f37, List.range, List.range.loop, ints, intss, int, bool, row, frac, fracs, ← List.map_take, ← List.map_drop, h1, hm6, hm7]
  refine awp_loop_of (live := [true, true, true, false, false, false, true, true, true, true, true, true, false, false, false, false, true, false, false, false, false, false, false, false, true, true, true, true, true, false, false, false, false, false, false, false, false, false, false, false, false, false, false, false, false, false, false, true]) (ctx_ok eqOk hG) mixed [true, true, true, false, false, false, false, true, true] (α := {j : Nat // j ≤ N}) (fun j => ⟨[int me, ints nl xs, int (N : Int), .junk, .junk, .junk, .junk, .ref 0 [] 0 j.1, .ref 1 [] 0 xs.length, .junk, .junk, .junk, .junk, .junk, .junk, .junk, .junk, .junk, .junk, .junk, .junk, .junk, .junk, .junk, .junk, .junk, .junk, .junk, .junk, .junk, .junk, .junk, .junk, .junk, .junk, .junk, .junk, .junk, .junk, .junk, .junk, .junk, .junk, .junk, .junk, .junk, .junk, .junk, .junk, .junk, .junk, .junk, .junk, .junk, .junk, .junk, .junk, .junk, .junk, .junk, .junk], [⟨true, .sl false 1 ((ordS me xs j.1).map int)⟩, ⟨true, .sl false 1 ((seatT me xs j.1).map int)⟩]⟩) (fun j => N - j.1) ⟨0, by omega⟩ (by simp [sub, slotsLe, clean, keep, refsL, refs, once, place, renL, ren, List.replicate, int, bool, z0, z1, ints]) ?_
  rintro ⟨j, hj⟩
  simp only
  have hol := ordS_len (me := me) (xs := xs) j
  obtain ⟨g1, g2, g3⟩ := seatT_facts (me := me) c1 j
  by_cases hjN : j < N
  case neg =>
    obtain rfl : j = N := by omega
    simp [List.range, List.range.loop, ints, intss, int, bool, row, frac, fracs, ← List.map_take, ← List.map_drop, hol]
  have hcl := hcl j hjN
  have hst := seatT_succ (me := me) (xs := xs) (j := j)
  have hos : ordS me xs (j + 1) = ordS me xs j ++ [bcTo me xs (seatT me xs j) xs.length] := rfl
  generalize seatT me xs j = A at *
  generalize ordS me xs j = O at *
  have zb : bcTo me xs A 0 = 0 := rfl
  simp [List.range, List.range.loop, ints, intss, int, bool, row, frac, fracs, ← List.map_take, ← List.map_drop, hol, hjN]
  refine awp_range (live := [true, true, true, false, false, false, true, true, true, true, true, true, false, false, false, false, true, false, false, false, false, false, false, false, true, true, true, true, true, false, false, false, false, false, false, false, false, false, false, false, false, false, false, false, false, false, false, true]) (ctx_ok eqOk hG) mixed [true, true, true, false, false, false, false, true, true, true, false, false, false, false, false, false, false, false, false, false, false, false, false, false, false, true, true, true] (xs.length) (fun i => True) (fun i => ⟨[int me, ints nl xs, int (N : Int), .junk, .junk, .junk, .junk, .ref 0 [] 0 j, .ref 1 [] 0 xs.length, int (bcTo me xs A i), .junk, .junk, .junk, .junk, .junk, .junk, .junk, .junk, .junk, .junk, .junk, .junk, .junk, .junk, .junk, ints nl xs, int xs.length, int i, .junk, .junk, .junk, .junk, .junk, .junk, .junk, .junk, .junk, .junk, .junk, .junk, .junk, .junk, .junk, .junk, .junk, .junk, .junk, .junk, .junk, .junk, .junk, .junk, .junk, .junk, .junk, .junk, .junk, .junk, .junk, .junk, .junk], [⟨true, .sl false 1 (O.map int)⟩, ⟨true, .sl false 1 (A.map int)⟩]⟩) ?_ (by simp [sub, slotsLe, clean, keep, refsL, refs, once, place, renL, ren, List.replicate, int, bool, zb, ints, g1]) ?_ ?_ ?_
  · omega
  · trivial
  · intro i hi _ hwi
    have hiA : i < A.length := by omega
    obtain ⟨b, hb1, hb2⟩ := bcTo_bd (me := me) (xs := xs) (ss := A) hi
    have hbA : b < A.length := by omega
    have a1 : xs[i] = at0 xs i := (at0_eq hi).symm
    have a2 : A[i] = at0 A i := (at0_eq hiA).symm
    have a3 : xs[b] = at0 xs b := (at0_eq hb2).symm
    have a4 : A[b] = at0 A b := (at0_eq hbA).symm
    have hm := mCmpT_at me (at0 xs i) (at0 A i) (at0 xs b) (at0 A b) ⟨hcl i hi, hcl b hb2⟩
    have hbs : bcTo me xs A (i + 1) = if 0 < cmpT me (at0 xs i) (at0 A i) (at0 xs (bcTo me xs A i).toNat) (at0 A (bcTo me xs A i).toNat) then (i : Int) else bcTo me xs A i := rfl
    rw [hb1] at hbs ⊢
    simp only [Int.toNat_natCast] at hbs
    by_cases hc : 0 < cmpT me (at0 xs i) (at0 A i) (at0 xs b) (at0 A b)
    · rw [if_pos hc] at hbs
      simp [List.range, List.range.loop, ints, intss, int, bool, row, frac, fracs, ← List.map_take, ← List.map_drop, hi, hiA, hb2, hbA, g1, a1, a2, a3, a4, hm, hc, hbs, hwi]
    · rw [if_neg hc] at hbs
      simp [List.range, List.range.loop, ints, intss, int, bool, row, frac, fracs, ← List.map_take, ← List.map_drop, hi, hiA, hb2, hbA, g1, a1, a2, a3, a4, hm, hc, hbs, hwi]
  · intro _
    obtain ⟨b, hb1, hb2⟩ := bcTo_nat (me := me) (xs := xs) (ss := A) xs.length
    have hbx : b < xs.length := by omega
    rw [hb1] at hst hos ⊢
    rw [inc1_nat] at hst
    have hbA : b < A.length := by omega
    have e3 : A[b] = at0 A b := (at0_eq hbA).symm
    have hbd := g3 _ (List.getElem_mem hbA)
    rw [e3] at hbd
    have hw : IntKind.i64.wrap (at0 A b + 1) = at0 A b + 1 := wrapI (by omega) (by omega)
    have hb8 : j + 1 ≤ 4611686018427387904 ∧ (j + 1) * 8 ≤ 140737488355328 := by omega
    simp [List.range, List.range.loop, ints, intss, int, bool, row, frac, fracs, ← List.map_take, ← List.map_drop, hbA, hbx, e3, hw, g1, hol, hb8]
    exact ⟨⟨j + 1, by omega⟩, by simp [sub, slotsLe, clean, keep, refsL, refs, once, place, renL, ren, List.replicate, int, bool, hst, hos], by simp; omega⟩

end Go.Proofs.YtiieikknhheffaaDoor.Ax
