/-
  Contracts: comparisons of fractions (both programs); a ranking names every candidate. No condition.
-/
import Derived.Test.YtkfgmpmeipilnaaCG3
import Derived.Test.YtkfgmpmeipilnaaCG6
import Derived.Test.YtkfgmpmeipilnaaCB2
import Derived.Test.YtkfgmpmeipilnaaCK4
namespace Go.Proofs.Ytkfgmpmeipilnaa.Ax
open Go Go.RowKit
set_option linter.unusedSimpArgs false

def cmpI (x y : Int) : Int := if x < y then -1 else if y < x then 1 else 0
noncomputable def mCmpI : List AV → Option AV := mk (fun _ => True) (fun (p : (Int) × (Int)) => [int p.1, int p.2]) (fun p => int (cmpI p.1 p.2))
theorem mCmpI_at (x : Int) (y : Int) : mCmpI [.v (.int .i64 x), .v (.int .i64 y)] = some (.v (.int .i64 (cmpI x y))) :=
  mk_eq (enc := fun (p : (Int) × (Int)) => [int p.1, int p.2]) (x := (x, y)) (by rintro ⟨a0, a1⟩ ⟨b0, b1⟩ h; simp [ints, intss, int, bool, row, frac, fracs, map_int_inj, map_row_inj, frac_inj, map_frac_inj] at h; simp [h]) trivial
noncomputable def mNaN : List AV → Option AV := mk (fun _ => True) (fun (p : (Int)) => [int p]) (fun _ => bool false)
theorem mNaN_at (x : Int) : mNaN [.v (.int .i64 x)] = some (.v (.bool false)) :=
  mk_eq (enc := fun (p : (Int)) => [int p]) (x := (x)) (by rintro a0 b0 h; simp [ints, intss, int, bool, row, frac, fracs, map_int_inj, map_row_inj, frac_inj, map_frac_inj] at h; simp [h]) trivial
theorem isNaN_ok : FnOk Try.prog 159 mNaN := by
  refine mk_ok fun x _ => ?_
  have hG : FnsOk Try.prog [] := .nil
  refine callOk_awp (ctx_ok eqOk hG) mixed (live := [true, false, true]) (dt := []) Try.func159 rfl (by kernel_rfl) (by kernel_rfl) fun w0 hlens => ?_
  simp [Try.f159, List.range, List.range.loop, ints, intss, int, bool, row, frac, fracs, ← List.map_take, ← List.map_drop]
set_option maxHeartbeats 1000000 in
theorem cmpCompare_ok : FnOk Try.prog 149 mCmpI := by
  refine mk_ok fun ⟨x, y⟩ _ => ?_
  have hG : FnsOk Try.prog [(159, mNaN)] := (.cons isNaN_ok .nil)
  refine callOk_awp (ctx_ok eqOk hG) mixed (live := [true, true, false, false, true, true, true, false, false, false, false, true, true, true, false, false, true, false, false, true]) (dt := []) Try.func149 rfl (by kernel_rfl) (by kernel_rfl) fun w0 hlens => ?_
  by_cases h1 : x < y
  · simp [Try.f149, List.range, List.range.loop, ints, intss, int, bool, row, frac, fracs, ← List.map_take, ← List.map_drop, mNaN_at, h1, cmpI]
  · by_cases h2 : y < x <;> simp [Try.f149, List.range, List.range.loop, ints, intss, int, bool, row, frac, fracs, ← List.map_take, ← List.map_drop, mNaN_at, h1, h2, cmpI]

noncomputable def mCmpF : List AV → Option AV := mk (fun _ => True) (fun (p : (Int) × (Int) × (Int) × (Int)) => [frac (p.1, p.2.1), frac (p.2.2.1, p.2.2.2)]) (fun p => int (cmpF (p.1, p.2.1) (p.2.2.1, p.2.2.2)))
theorem mCmpF_at (a : Int) (b : Int) (c : Int) (d : Int) : mCmpF [.agg [.v (.int .i64 a), .v (.int .i64 b)], .agg [.v (.int .i64 c), .v (.int .i64 d)]] = some (.v (.int .i64 (cmpF (a, b) (c, d)))) :=
  mk_eq (enc := fun (p : (Int) × (Int) × (Int) × (Int)) => [frac (p.1, p.2.1), frac (p.2.2.1, p.2.2.2)]) (x := (a, b, c, d)) (by rintro ⟨a0, a1, a2, a3⟩ ⟨b0, b1, b2, b3⟩ h; simp [ints, intss, int, bool, row, frac, fracs, map_int_inj, map_row_inj, frac_inj, map_frac_inj] at h; simp [h]) trivial
set_option maxHeartbeats 2000000 in
theorem implCmpF_ok : FnOk Try.prog 142 mCmpF := by
  refine mk_ok fun ⟨a, b, c, d⟩ _ => ?_
  have hG : FnsOk Try.prog [(63, mFracOk), (149, mCmpI)] := (.cons implFractionOk_ok (.cons cmpCompare_ok .nil))
  refine callOk_awp (ctx_ok eqOk hG) mixed (live := [true, true, true, true, true, false, false, false, false, false, false, false, true]) (dt := []) Try.func142 rfl (by kernel_rfl) (by kernel_rfl) fun w0 hlens => ?_
  cases h1 : fracOk (a, b) with
  | false => simp (config := {contextual := true}) [Try.f142, List.range, List.range.loop, ints, intss, int, bool, row, frac, fracs, ← List.map_take, ← List.map_drop, mFracOk_at, mTwo_at, h1, cmpF]
  | true =>
  cases h2 : fracOk (c, d) with
  | false => simp (config := {contextual := true}) [Try.f142, List.range, List.range.loop, ints, intss, int, bool, row, frac, fracs, ← List.map_take, ← List.map_drop, mFracOk_at, mTwo_at, h1, h2, cmpF]
  | true =>
  have b1 := fracOk_bd h1
  have b2 := fracOk_bd h2
  simp only at b1 b2
  have m1 := mul_bd (x := a) (y := d) (m := 1000000000) (n := 1000000000) (by omega) (by omega) (by omega) (by omega)
  have m2 := mul_bd (x := c) (y := b) (m := 1000000000) (n := 1000000000) (by omega) (by omega) (by omega) (by omega)
  have w1 : IntKind.i64.wrap (a * d) = a * d := wrapI (by omega) (by omega)
  have w2 : IntKind.i64.wrap (c * b) = c * b := wrapI (by omega) (by omega)
  have e : cmpF (a, b) (c, d) = cmpI (a * d) (c * b) := by simp [cmpF, h1, h2, cmpI]
  rw [e]
  by_cases h3 : a * d < c * b
  · simp (config := {contextual := true}) [Try.f142, List.range, List.range.loop, ints, intss, int, bool, row, frac, fracs, ← List.map_take, ← List.map_drop, mFracOk_at, mTwo_at, mCmpI_at, h1, h2, w1, w2, cmpI, h3]
  · by_cases h4 : c * b < a * d <;> simp (config := {contextual := true}) [Try.f142, List.range, List.range.loop, ints, intss, int, bool, row, frac, fracs, ← List.map_take, ← List.map_drop, mFracOk_at, mTwo_at, mCmpI_at, h1, h2, w1, w2, cmpI, h3, h4]

set_option maxHeartbeats 2000000 in
theorem specCmpF_ok : FnOk Try.prog 101 mCmpF := by
  refine mk_ok fun ⟨a, b, c, d⟩ _ => ?_
  have hG : FnsOk Try.prog [(99, mTwo)] := (.cons l02Two_ok .nil)
  refine callOk_awp (ctx_ok eqOk hG) mixed (live := [true, true, true, true, true, true, true, false, false, false, true, false, false, false, false, false, false, false, false, false, false, true, false, false, false, true]) (dt := []) Try.func101 rfl (by kernel_rfl) (by kernel_rfl) fun w0 hlens => ?_
  cases h1 : fracOk (a, b) with
  | false => simp (config := {contextual := true}) [Try.f101, List.range, List.range.loop, ints, intss, int, bool, row, frac, fracs, ← List.map_take, ← List.map_drop, mFracOk_at, mTwo_at, h1, cmpF]
  | true =>
  cases h2 : fracOk (c, d) with
  | false => simp (config := {contextual := true}) [Try.f101, List.range, List.range.loop, ints, intss, int, bool, row, frac, fracs, ← List.map_take, ← List.map_drop, mFracOk_at, mTwo_at, h1, h2, cmpF]
  | true =>
  have b1 := fracOk_bd h1
  have b2 := fracOk_bd h2
  simp only at b1 b2
  have m1 := mul_bd (x := a) (y := d) (m := 1000000000) (n := 1000000000) (by omega) (by omega) (by omega) (by omega)
  have m2 := mul_bd (x := c) (y := b) (m := 1000000000) (n := 1000000000) (by omega) (by omega) (by omega) (by omega)
  have w1 : IntKind.i64.wrap (a * d) = a * d := wrapI (by omega) (by omega)
  have w2 : IntKind.i64.wrap (c * b) = c * b := wrapI (by omega) (by omega)
  have e : cmpF (a, b) (c, d) = cmpI (a * d) (c * b) := by simp [cmpF, h1, h2, cmpI]
  rw [e]
  by_cases h3 : a * d < c * b
  · simp (config := {contextual := true}) [Try.f101, List.range, List.range.loop, ints, intss, int, bool, row, frac, fracs, ← List.map_take, ← List.map_drop, mFracOk_at, mTwo_at, mCmpI_at, h1, h2, w1, w2, cmpI, h3]
  · by_cases h4 : c * b < a * d <;> simp (config := {contextual := true}) [Try.f101, List.range, List.range.loop, ints, intss, int, bool, row, frac, fracs, ← List.map_take, ← List.map_drop, mFracOk_at, mTwo_at, mCmpI_at, h1, h2, w1, w2, cmpI, h3, h4]

noncomputable def mLessF : List AV → Option AV := mk (fun _ => True) (fun (p : (Int) × (Int) × (Int) × (Int)) => [frac (p.1, p.2.1), frac (p.2.2.1, p.2.2.2)]) (fun p => bool (decide (cmpF (p.1, p.2.1) (p.2.2.1, p.2.2.2) = -1)))
theorem mLessF_at (a : Int) (b : Int) (c : Int) (d : Int) : mLessF [.agg [.v (.int .i64 a), .v (.int .i64 b)], .agg [.v (.int .i64 c), .v (.int .i64 d)]] = some (.v (.bool (decide (cmpF (a, b) (c, d) = -1)))) :=
  mk_eq (enc := fun (p : (Int) × (Int) × (Int) × (Int)) => [frac (p.1, p.2.1), frac (p.2.2.1, p.2.2.2)]) (x := (a, b, c, d)) (by rintro ⟨a0, a1, a2, a3⟩ ⟨b0, b1, b2, b3⟩ h; simp [ints, intss, int, bool, row, frac, fracs, map_int_inj, map_row_inj, frac_inj, map_frac_inj] at h; simp [h]) trivial
set_option maxHeartbeats 1000000 in
theorem less_ok : FnOk Try.prog 106 mLessF := by
  refine mk_ok fun ⟨a, b, c, d⟩ _ => ?_
  have hG : FnsOk Try.prog [(142, mCmpF)] := (.cons implCmpF_ok .nil)
  refine callOk_awp (ctx_ok eqOk hG) mixed (live := [true, true, true, true, true]) (dt := []) Try.func106 rfl (by kernel_rfl) (by kernel_rfl) fun w0 hlens => ?_
  generalize hz : cmpF (a, b) (c, d) = z
  have e : (z == -1) = decide (z = -1) := by rw [Bool.eq_iff_iff]; simp
  simp (config := {contextual := true}) [Try.f106, List.range, List.range.loop, ints, intss, int, bool, row, frac, fracs, ← List.map_take, ← List.map_drop, mCmpF_at, hz, e]

theorem addF_frac {x y : Int × Int} (h : (addF x y).2 = true) : fracOk (addF x y).1 = true ∧ fracOk x = true ∧ fracOk y = true := by
  unfold addF mkF at h ⊢
  split
  · rename_i h1
    rw [if_pos h1] at h
    simp only [Bool.and_eq_true] at h1
    split
    · rename_i h2; exact ⟨h2, h1.1, h1.2⟩
    · rename_i h2; rw [if_neg h2] at h; simp at h
  · rename_i h1; rw [if_neg h1] at h; simp at h
theorem cmpF_neg {x y : Int × Int} (hx : fracOk x = true) (hy : fracOk y = true) : cmpF x y < 0 ↔ cmpF x y = -1 := by
  unfold cmpF; rw [hx, hy]
  simp only [Bool.and_true, if_true]
  split
  · simp
  · split <;> simp

theorem nodup_le : ∀ {L M : List Nat}, L.Nodup → (∀ x ∈ L, x ∈ M) → L.length ≤ M.length
  | [], _, _, _ => by simp
  | x :: L, M, h, hs => by
    rw [List.nodup_cons] at h
    have hx := hs x (by simp)
    have := nodup_le (L := L) (M := M.erase x) h.2 fun y hy => (List.mem_erase_of_ne (fun (e : y = x) => h.1 (by rw [← e]; exact hy))).2 (hs y (by simp [hy]))
    rw [List.length_erase_of_mem hx] at this
    have hp := List.length_pos_of_mem hx
    simp only [List.length_cons]; omega

theorem posFrom_iff {v : Int} : ∀ {xs : List Int} {k : Nat}, 0 ≤ posFrom v xs k ↔ v ∈ xs
  | [], k => by simp [posFrom]
  | x :: xs, k => by
    rw [posFrom]
    by_cases e : x = v
    · rw [if_pos e]; subst e; simp
    · rw [if_neg e, posFrom_iff, List.mem_cons]; exact ⟨.inr, fun h => h.resolve_left fun e' => e e'.symm⟩
theorem pos_iff {v : Int} {xs : List Int} : 0 ≤ pos xs v ↔ v ∈ xs := posFrom_iff

/-- What a valid ranking is. -/
theorem rank_facts {m : Int} {l : List Int} (h : rankB m l = true) : 1 ≤ m ∧ m ≤ 5 ∧ (l.length : Int) = m ∧ (∀ i (hi : i < l.length), 0 ≤ l[i] ∧ l[i] < m) ∧ l.Nodup := by
  simp only [rankB, Bool.and_eq_true, decide_eq_true_eq, inR] at h
  obtain ⟨⟨⟨h1, h2⟩, h3⟩, h4⟩ := h
  have hat : ∀ i (hi : i < l.length), (0 ≤ l[i] ∧ l[i] < m) ∧ l[i] ∉ l.take i := fun i hi => by
    have := List.all_eq_true.1 h4 i (by simpa using hi)
    rw [rankAt_at hi] at this
    simp only [Bool.and_eq_true, inR, decide_eq_true_eq, Bool.not_eq_true', decide_eq_false_iff_not, pos_iff] at this
    exact ⟨⟨this.1.1, by omega⟩, this.2⟩
  refine ⟨h1, h2, h3, fun i hi => (hat i hi).1, ?_⟩
  rw [List.nodup_iff_pairwise_ne, List.pairwise_iff_getElem]
  intro i j hi hj hij e
  exact (hat j hj).2 (List.mem_iff_getElem.2 ⟨i, by simp; omega, by rw [List.getElem_take]; exact e⟩)
/-- A ranking names every candidate. -/
theorem rank_all {m : Int} {l : List Int} (h : rankB m l = true) {i : Nat} (hi : (i : Int) < m) : ∃ k, ∃ hk : k < l.length, l[k] = i := by
  obtain ⟨h1, h2, h3, h4, h5⟩ := rank_facts h
  apply Classical.byContradiction
  intro hno
  have hin : ∀ x ∈ l, 0 ≤ x ∧ x < m := fun x hx => by
    obtain ⟨j, hj, rfl⟩ := List.getElem_of_mem hx; exact h4 j hj
  have hni : (i : Int) ∉ l := fun hx => by
    obtain ⟨j, hj, e⟩ := List.getElem_of_mem hx; exact hno ⟨j, hj, e⟩
  have hnd : (i :: l.map Int.toNat).Nodup := by
    rw [List.nodup_cons]
    refine ⟨fun hx => ?_, ?_⟩
    · obtain ⟨x, hx, e⟩ := List.mem_map.1 hx
      have := hin x hx
      exact hni (by rw [← e, Int.toNat_of_nonneg this.1]; exact hx)
    · rw [List.nodup_iff_pairwise_ne, List.pairwise_map]
      rw [List.nodup_iff_pairwise_ne] at h5
      refine List.Pairwise.imp_of_mem (fun {a b} ha hb hab e => hab ?_) h5
      have := hin a ha; have := hin b hb; omega
  have := nodup_le (M := List.range l.length) hnd fun x hx => by
    rw [List.mem_range]
    rcases List.mem_cons.1 hx with rfl | hx
    · omega
    · obtain ⟨y, hy, rfl⟩ := List.mem_map.1 hx
      have := hin y hy; omega
  simp at this
  omega

end Go.Proofs.Ytkfgmpmeipilnaa.Ax

/-
  Fractions of a common divisor: sums, differences and quotients of them. No condition.
-/
namespace Go.Proofs.Ytkfgmpmeipilnaa.Ax
open Go Go.RowKit
set_option linter.unusedSimpArgs false

/-- a parts of D, in the least terms. -/
def qd (a D : Int) : Int × Int := ((Rat.divInt a D).num, ((Rat.divInt a D).den : Int))

theorem red_num {t b : Int} (hb : 0 < b) : (Rat.divInt t b).num = t.tdiv (Int.gcd t b) ∧ ((Rat.divInt t b).den : Int) = b.tdiv (Int.gcd t b) := by
  obtain ⟨g1, g2⟩ := gcd_bd (x := t) (y := b) (by omega)
  have hd1 : (Int.gcd t b : Int) ∣ t := Int.gcd_dvd_left ..
  have hd2 : (Int.gcd t b : Int) ∣ b := Int.gcd_dvd_right ..
  constructor
  · rw [Rat.num_divInt]
    have hs : b.sign = 1 := Int.sign_eq_one_of_pos hb
    rw [hs, Int.one_mul, Int.gcd_comm]
    exact (Int.tdiv_eq_ediv_of_dvd hd1).symm
  · rw [Rat.den_divInt, if_neg (by omega)]
    rw [Int.tdiv_eq_ediv_of_dvd hd2, Int.natCast_ediv, Int.gcd_comm]
    congr 1
    omega

theorem mkF_qd {t b : Int} (hb : 0 < b) : mkF t b = if fracOk (qd t b) = true then (qd t b, true) else ((0, 0), false) := by
  obtain ⟨h1, h2⟩ := red_num (t := t) hb
  unfold mkF qd
  rw [h1, h2]

theorem qd_val {a D : Int} : val (qd a D) = Rat.divInt a D := by unfold val qd; exact Rat.num_divInt_den _
theorem qd_congr {a D b E : Int} (h : Rat.divInt a D = Rat.divInt b E) : qd a D = qd b E := by unfold qd; rw [h]

theorem qd_ok {a D : Int} (hD : 0 < D) (hD1 : D ≤ 1000000000) (ha : -1000000000 ≤ a ∧ a ≤ 1000000000) : fracOk (qd a D) = true := by
  obtain ⟨h1, h2⟩ := red_num (t := a) hD
  obtain ⟨g1, g2⟩ := gcd_bd (x := a) (y := D) (by omega)
  have hden : (1 : Int) ≤ (Rat.divInt a D).den := by have := (Rat.divInt a D).den_pos; omega
  have hde : ((Rat.divInt a D).den : Int) ≤ 1000000000 := by
    have := tdiv_bd (x := D) (y := Int.gcd a D) (m := 1000000000) (by omega) (by omega)
    rw [h2]; omega
  have hnu : -1000000000 ≤ (Rat.divInt a D).num ∧ (Rat.divInt a D).num ≤ 1000000000 := by
    have := tdiv_bd (x := a) (y := Int.gcd a D) (m := 1000000000) (by omega) (by omega)
    rw [h1]; omega
  have hco : Int.gcd (Rat.divInt a D).num ((Rat.divInt a D).den : Int) = 1 := by
    have := (Rat.divInt a D).reduced
    rw [Nat.coprime_iff_gcd_eq_one] at this
    rw [← this]; simp [Int.gcd]
  unfold fracOk qd
  simp only [Bool.and_eq_true, decide_eq_true_eq]
  refine ⟨⟨?_, ?_⟩, ?_⟩ <;> first | omega | simp [hco] | (exact_mod_cast hco)

/-- The parts, and what they are in the least terms. -/
theorem qd_parts {a D : Int} (hD : 0 < D) : ∃ g : Int, 0 < g ∧ (qd a D).1 * g = a ∧ (qd a D).2 * g = D := by
  obtain ⟨h1, h2⟩ := red_num (t := a) hD
  obtain ⟨g1, g2⟩ := gcd_bd (x := a) (y := D) (by omega)
  refine ⟨(Int.gcd a D : Int), by omega, ?_, ?_⟩
  · show (Rat.divInt a D).num * _ = a
    rw [h1]; exact Int.tdiv_mul_cancel (Int.gcd_dvd_left ..)
  · show ((Rat.divInt a D).den : Int) * _ = D
    rw [h2]; exact Int.tdiv_mul_cancel (Int.gcd_dvd_right ..)

theorem qd_scale {a D c : Int} (hc : 0 < c) : qd (c * a) (c * D) = qd a D := qd_congr (Rat.divInt_mul_left (by omega))
theorem qd_pos {a D : Int} (hD : 0 < D) : 0 < (qd a D).1 ↔ 0 < a := by
  obtain ⟨g, h0, h1, _⟩ := qd_parts (a := a) hD
  constructor
  · intro h
    have := Int.mul_pos h h0
    rw [h1] at this; exact this
  · intro h
    rcases Int.lt_or_le 0 (qd a D).1 with h2 | h2
    · exact h2
    · have := Int.mul_nonneg (show 0 ≤ -(qd a D).1 by omega) (show (0 : Int) ≤ g by omega)
      rw [Int.neg_mul, h1] at this
      omega
theorem qd_den {a D : Int} (hD : 0 < D) : 0 < (qd a D).2 := by
  obtain ⟨g, h0, _, h2⟩ := qd_parts (a := a) hD
  rcases Int.lt_or_le 0 (qd a D).2 with h | h
  · exact h
  · have := Int.mul_nonneg (show 0 ≤ -(qd a D).2 by omega) (show (0 : Int) ≤ g by omega)
    rw [Int.neg_mul, h2] at this
    omega

theorem add_divInt {a b D : Int} (hD : 0 < D) : Rat.divInt a D + Rat.divInt b D = Rat.divInt (a + b) D := by
  rw [Rat.divInt_add_divInt _ _ (by omega) (by omega)]
  have e : a * D + b * D = D * (a + b) := by rw [← Int.add_mul, Int.mul_comm]
  rw [e]
  exact Rat.divInt_mul_left (by omega)

theorem addF_qd {a b D : Int} (hD : 0 < D) (hD1 : D ≤ 1000000000) (ha : -1000000000 ≤ a ∧ a ≤ 1000000000) (hb : -1000000000 ≤ b ∧ b ≤ 1000000000) (hab : -1000000000 ≤ a + b ∧ a + b ≤ 1000000000) : addF (qd a D) (qd b D) = (qd (a + b) D, true) := by
  have h1 := qd_ok hD hD1 ha
  have h2 := qd_ok hD hD1 hb
  have h3 := qd_ok hD hD1 hab
  have p1 := qd_den (a := a) hD
  have p2 := qd_den (a := b) hD
  unfold addF
  rw [h1, h2]
  simp only [Bool.and_self, if_true]
  rw [mkF_qd (Int.mul_pos p1 p2)]
  have e : qd ((qd a D).1 * (qd b D).2 + (qd b D).1 * (qd a D).2) ((qd a D).2 * (qd b D).2) = qd (a + b) D := by
    refine qd_congr ?_
    rw [← Rat.divInt_add_divInt _ _ (by omega) (by omega)]
    have v1 : Rat.divInt (qd a D).1 (qd a D).2 = Rat.divInt a D := qd_val (a := a) (D := D)
    have v2 : Rat.divInt (qd b D).1 (qd b D).2 = Rat.divInt b D := qd_val (a := b) (D := D)
    rw [v1, v2, add_divInt hD]
  rw [e, if_pos h3]

theorem neg_qd {a D : Int} : (-(qd a D).1, (qd a D).2) = qd (-a) D := by
  unfold qd
  have : Rat.divInt (-a) D = -(Rat.divInt a D) := (Rat.neg_divInt _ _).symm
  rw [this]; rfl
theorem subF_qd {a b D : Int} (hD : 0 < D) (hD1 : D ≤ 1000000000) (ha : -1000000000 ≤ a ∧ a ≤ 1000000000) (hb : -1000000000 ≤ b ∧ b ≤ 1000000000) (hab : -1000000000 ≤ a - b ∧ a - b ≤ 1000000000) : subF (qd a D) (qd b D) = (qd (a - b) D, true) := by
  unfold subF
  rw [neg_qd, addF_qd hD hD1 ha (by omega) (by omega)]
  rfl

theorem cmpF_qd {a b D : Int} (hD : 0 < D) (hD1 : D ≤ 1000000000) (ha : -1000000000 ≤ a ∧ a ≤ 1000000000) (hb : -1000000000 ≤ b ∧ b ≤ 1000000000) : cmpF (qd a D) (qd b D) = cmpI a b := by
  have h1 := qd_ok hD hD1 ha
  have h2 := qd_ok hD hD1 hb
  obtain ⟨g1, p1, e1, f1⟩ := qd_parts (a := a) hD
  obtain ⟨g2, p2, e2, f2⟩ := qd_parts (a := b) hD
  have key : ∀ x y : Int, (x = (qd a D).1 * (qd b D).2) → (y = (qd b D).1 * (qd a D).2) → (x < y ↔ a < b) ∧ (y < x ↔ b < a) := by
    intro x y hx hy
    have k1 : x * (g1 * g2) = a * D := by
      have : a * D = ((qd a D).1 * g1) * ((qd b D).2 * g2) := by rw [e1, f2]
      rw [hx, this]; simp only [Int.mul_assoc, Int.mul_left_comm, Int.mul_comm]
    have k2 : y * (g1 * g2) = b * D := by
      have : b * D = ((qd b D).1 * g2) * ((qd a D).2 * g1) := by rw [e2, f1]
      rw [hy, this]; simp only [Int.mul_assoc, Int.mul_left_comm, Int.mul_comm]
    have hg : 0 < g1 * g2 := Int.mul_pos p1 p2
    constructor
    · rw [← Int.mul_lt_mul_right hg, k1, k2, Int.mul_lt_mul_right hD]
    · rw [← Int.mul_lt_mul_right hg, k1, k2, Int.mul_lt_mul_right hD]
  obtain ⟨k1, k2⟩ := key _ _ rfl rfl
  unfold cmpF cmpI
  rw [h1, h2]
  simp only [Bool.and_self, if_true, k1, k2]

theorem divF_qd {a D k : Int} (hD : 0 < D) (hk : 0 < k) (hDk : D * k ≤ 1000000000) (ha : -1000000000 ≤ a ∧ a ≤ 1000000000) : mkF (qd a D).1 ((qd a D).2 * k) = (qd a (D * k), true) := by
  have p1 := qd_den (a := a) hD
  rw [mkF_qd (Int.mul_pos p1 hk)]
  have h3 := qd_ok (Int.mul_pos hD hk) hDk ha
  have e : qd (qd a D).1 ((qd a D).2 * k) = qd a (D * k) := by
    obtain ⟨g, p2, e1, f1⟩ := qd_parts (a := a) hD
    have h := qd_scale (a := (qd a D).1) (D := (qd a D).2 * k) p2
    rw [← h]
    have e2 : g * (qd a D).1 = a := by rw [Int.mul_comm]; exact e1
    have e3 : g * ((qd a D).2 * k) = D * k := by rw [← Int.mul_assoc, Int.mul_comm g]; rw [f1]
    rw [e2, e3]
  rw [e, if_pos h3]

end Go.Proofs.Ytkfgmpmeipilnaa.Ax

/-
  Contracts: a short list of ints is sorted by a function, stably (slices.SortStableFunc). No condition.
-/
namespace Go.Proofs.Ytkfgmpmeipilnaa.Ax
open Go Go.RowKit
set_option linter.unusedSimpArgs false

theorem Pure.killN {caps : List AV} (hc : Pure caps) (k : Nat) : killNL k caps = caps := killNL_id' k caps (by rw [hc.refs]; simp)

/-- x steps to the left of the first k numbers as long as it is less than the next one there. -/
def insFrom (c : Int → Int → Int) (ys : List Int) (x : Int) : Nat → List Int
  | 0 => x :: ys
  | k + 1 => if c x (ys.getD k 0) < 0 then insFrom c ys x k else ys.take (k + 1) ++ x :: ys.drop (k + 1)
def ins (c : Int → Int → Int) (ys : List Int) (x : Int) : List Int := insFrom c ys x ys.length
def isort (c : Int → Int → Int) (xs : List Int) : List Int := xs.foldl (ins c) []
theorem insFrom_len {c : Int → Int → Int} {ys : List Int} {x : Int} : ∀ {k : Nat}, (insFrom c ys x k).length = ys.length + 1
  | 0 => rfl
  | k + 1 => by
    unfold insFrom
    split
    · exact insFrom_len
    · simp; omega
theorem mem_insFrom {c : Int → Int → Int} {ys : List Int} {x y : Int} : ∀ {k : Nat}, y ∈ insFrom c ys x k ↔ y = x ∨ y ∈ ys
  | 0 => by simp [insFrom]
  | k + 1 => by
    unfold insFrom
    split
    · exact mem_insFrom
    · rw [List.mem_append, List.mem_cons]
      conv => rhs; rw [← List.take_append_drop (k + 1) ys, List.mem_append]
      constructor
      · rintro (h | h | h)
        · exact .inr (.inl h)
        · exact .inl h
        · exact .inr (.inr h)
      · rintro (h | h | h)
        · exact .inr (.inl h)
        · exact .inl h
        · exact .inr (.inr h)
theorem isort_snoc {c : Int → Int → Int} {xs : List Int} {x : Int} : isort c (xs ++ [x]) = ins c (isort c xs) x := by simp [isort, List.foldl_append]
theorem isort_len {c : Int → Int → Int} (xs : List Int) : (isort c xs).length = xs.length := by
  unfold isort
  suffices h : ∀ (xs ys : List Int), (xs.foldl (ins c) ys).length = ys.length + xs.length by simpa using h xs []
  intro xs
  induction xs with
  | nil => intro ys; simp
  | cons x xs ih => intro ys; simp only [List.foldl_cons]; rw [ih]; simp [ins, insFrom_len]; omega
theorem isort_mem {c : Int → Int → Int} {xs : List Int} {y : Int} : y ∈ isort c xs ↔ y ∈ xs := by
  unfold isort
  suffices h : ∀ (xs ys : List Int), y ∈ xs.foldl (ins c) ys ↔ y ∈ ys ∨ y ∈ xs by simpa using h xs []
  intro xs
  induction xs with
  | nil => intro ys; simp
  | cons x xs ih =>
    intro ys
    simp only [List.foldl_cons]
    rw [ih]
    simp only [ins, mem_insFrom, List.mem_cons]
    constructor
    · rintro ((h | h) | h)
      · exact .inr (.inl h)
      · exact .inl h
      · exact .inr (.inr h)
    · rintro (h | h | h)
      · exact .inl (.inr h)
      · exact .inl (.inl h)
      · exact .inr h

/-- x stands behind the first j numbers of what is sorted already. -/
def midd (ys : List Int) (x : Int) (j : Nat) (rest : List Int) : List Int := ys.take j ++ x :: (ys.drop j ++ rest)
theorem midd_len {ys rest : List Int} {x : Int} {j : Nat} : (midd ys x j rest).length = ys.length + 1 + rest.length := by simp [midd]; omega
theorem midd_at {ys rest : List Int} {x : Int} {j : Nat} (h : j ≤ ys.length) : (midd ys x j rest)[j]? = some x := by
  unfold midd
  rw [List.getElem?_append_right (by simp; omega)]
  simp [Nat.min_eq_left h]
theorem midd_before {ys rest : List Int} {x : Int} {k : Nat} (h : k + 1 ≤ ys.length) : (midd ys x (k + 1) rest)[k]? = some (ys.getD k 0) := by
  unfold midd
  rw [List.getElem?_append_left (by simp; omega), List.getElem?_take, if_pos (by omega), List.getElem?_eq_getElem (by omega), List.getD_eq_getElem?_getD, List.getElem?_eq_getElem (by omega)]
  rfl
theorem midd_swap {ys rest : List Int} {x : Int} {k : Nat} (h : k + 1 ≤ ys.length) :
    (((midd ys x (k + 1) rest).map int).set (k + 1) (.v (.int .i64 (ys.getD k 0)))).set k (.v (.int .i64 x)) = (midd ys x k rest).map int := by
  have e1 : AV.v (.int .i64 (ys.getD k 0)) = int (ys.getD k 0) := rfl
  have e2 : AV.v (.int .i64 x) = int x := rfl
  rw [e1, e2, ← List.map_set, ← List.map_set]
  congr 1
  obtain ⟨az, y, bz, rfl, rfl⟩ : ∃ az y bz, ys = az ++ y :: bz ∧ k = az.length := by
    refine ⟨ys.take k, ys[k], ys.drop (k + 1), ?_, by simp; omega⟩
    rw [List.getElem_cons_drop, List.take_append_drop]
  have t1 : az.take (az.length + 1) = az := List.take_of_length_le (by omega)
  have t2 : az.drop (az.length + 1) = [] := List.drop_of_length_le (by omega)
  simp [midd, List.take_append, List.drop_append, t1, t2]
theorem midd_all {ys : List Int} {x : Int} {rest : List Int} : midd ys x ys.length rest = ys ++ x :: rest := by simp [midd]

/-- The list whose first i numbers are sorted. -/
def srtTo (c : Int → Int → Int) (xs : List Int) (i : Nat) : List Int := isort c (xs.take i) ++ xs.drop i
theorem srtTo_len {c : Int → Int → Int} {xs : List Int} {i : Nat} : (srtTo c xs i).length = xs.length := by
  unfold srtTo
  rw [List.length_append, isort_len, ← List.length_append, List.take_append_drop]
theorem srtTo_one {c : Int → Int → Int} {xs : List Int} : srtTo c xs 1 = xs := by
  cases xs with
  | nil => rfl
  | cons x xs => simp [srtTo, isort, ins, insFrom]
theorem srtTo_all {c : Int → Int → Int} {xs : List Int} {i : Nat} (h : xs.length ≤ i) : srtTo c xs i = isort c xs := by
  simp [srtTo, List.take_of_length_le h, List.drop_of_length_le h]
theorem srtTo_mid {c : Int → Int → Int} {xs : List Int} {i : Nat} (h : i < xs.length) : srtTo c xs i = midd (isort c (xs.take i)) xs[i] (isort c (xs.take i)).length (xs.drop (i + 1)) := by
  rw [midd_all, srtTo, List.getElem_cons_drop]
theorem srtTo_done {c : Int → Int → Int} {xs : List Int} {i j : Nat} (h : i < xs.length) (hi : insFrom c (isort c (xs.take i)) xs[i] j = ins c (isort c (xs.take i)) xs[i])
    (hj : j = 0 ∨ ∃ k, j = k + 1 ∧ ¬ c xs[i] ((isort c (xs.take i)).getD k 0) < 0) : midd (isort c (xs.take i)) xs[i] j (xs.drop (i + 1)) = srtTo c xs (i + 1) := by
  unfold srtTo
  rw [List.take_succ_eq_append_getElem h, isort_snoc, ← hi]
  rcases hj with rfl | ⟨k, rfl, hk⟩
  · simp [midd, insFrom]
  · rw [insFrom, if_neg hk]
    simp [midd]

set_option maxHeartbeats 2000000 in
theorem insertion_ok {g : FuncId} {caps : List AV} (hc : Pure caps) (c : Int → Int → Int) (nl : Bool) (xs : List Int) (hn : xs.length ≤ 1000)
    (hg : ∀ x ∈ xs, ∀ y ∈ xs, CallOk Try.prog g (.v (.int .i64 x) :: .v (.int .i64 y) :: caps) (.v (.int .i64 (c x y)))) :
    MutOk Try.prog 157 [ints nl xs, int 0, int xs.length, .fn g caps] 0 (.tup []) (ints nl (isort c xs)) := by
  have hG : FnsOk Try.prog [(g, mk (fun p : Int × Int => p.1 ∈ xs ∧ p.2 ∈ xs) (fun p : Int × Int => .v (.int .i64 p.1) :: .v (.int .i64 p.2) :: caps) (fun p => .v (.int .i64 (c p.1 p.2))))] := .cons (mk_ok fun p hp => hg p.1 hp.1 p.2 hp.2) .nil
  have hat : ∀ x y, x ∈ xs → y ∈ xs → mk (fun p : Int × Int => p.1 ∈ xs ∧ p.2 ∈ xs) (fun p : Int × Int => (.v (.int .i64 p.1) : AV) :: .v (.int .i64 p.2) :: caps) (fun p => AV.v (.int .i64 (c p.1 p.2))) (.v (.int .i64 x) :: .v (.int .i64 y) :: caps) = some (.v (.int .i64 (c x y))) := fun x y hx hy =>
    mk_eq (enc := fun p : Int × Int => (.v (.int .i64 p.1) : AV) :: .v (.int .i64 p.2) :: caps) (x := (x, y)) (by rintro ⟨a, b⟩ ⟨d, e⟩ h; simp at h; simp [h]) ⟨hx, hy⟩
  generalize mk (fun p : Int × Int => p.1 ∈ xs ∧ p.2 ∈ xs) (fun p : Int × Int => (.v (.int .i64 p.1) : AV) :: .v (.int .i64 p.2) :: caps) (fun p => AV.v (.int .i64 (c p.1 p.2))) = m at hG hat
  refine mutOk_awp (ctx_ok eqOk hG) mixed (live := [true, true, true, true, false, false, false, false, true, true, false, false, false, false, true, false, false, false, false, false, false, false, false, false, false, false, false, false, false, false, false, false, false, false, true]) (dt := [(4, ⟨[], [], []⟩), (6, ⟨[(4, 15)], [], []⟩)]) (pos := 0) rfl Try.func157 rfl (by kernel_rfl) (by kernel_rfl) fun US Uv w0 hlens => ?_
  have w1 : IntKind.i64.wrap 1 = 1 := by decide
  have hs1 := srtTo_one (c := c) (xs := xs)
  simp [Try.f157, List.range, List.range.loop, ints, intss, int, bool, row, frac, fracs, ← List.map_take, ← List.map_drop, hc.res, hc.refs, hc.ren, hc.killN]
  refine awp_range (live := [true, true, true, true, false, false, false, false, true, true, false, false, false, false, true, false, false, false, false, false, false, false, false, false, false, false, false, false, false, false, false, false, false, false, true]) (ctx_ok eqOk hG) mixed [true, true, true, true, false, false, false, false, true] (xs.length - 1) (fun k => True) (fun k => ⟨[.ref 0 [] 0 xs.length, int 0, int xs.length, .fn g caps, .junk, .junk, .junk, .junk, int ((k : Int) + 1), .junk, .junk, .junk, .junk, .junk, .junk, .junk, .junk, .junk, .junk, .junk, .junk, .junk, .junk, .junk, .junk, .junk, .junk, .junk, .junk, .junk, .junk, .junk, .junk, .junk, .junk, .junk, .junk, .junk, .junk, .junk, .junk, .junk, .junk, .junk, .junk, .junk, .junk, .junk, .junk, .junk, .junk, .junk, .junk], [⟨true, .sl nl 1 ((srtTo c xs (k + 1)).map int)⟩]⟩) ?_ (by simp [sub, slotsLe, clean, keep, refsL, refs, once, place, renL, ren, List.replicate, int, bool, hs1, w1, hc.refs, hc.ren, hc.killN]) ?_ ?_ ?_
  · omega
  · trivial
  · intro k hk _ hwk
    have hk1 : k + 1 < xs.length := by omega
    have hlt : ((k : Int) + 1 < (xs.length : Int)) := by omega
    have hw2 : IntKind.i64.wrap ((k : Int) + 1 + 1) = (k : Int) + 1 + 1 := wrapI (by omega) (by omega)
    have hmid := srtTo_mid (c := c) hk1
    have hyl : (isort c (xs.take (k + 1))).length = k + 1 := by rw [isort_len]; simp; omega
    have hys : ∀ y ∈ isort c (xs.take (k + 1)), y ∈ xs := fun y hy => List.mem_of_mem_take (isort_mem.1 hy)
    have hdone := fun j => srtTo_done (c := c) (j := j) hk1
    have hx : xs[k + 1] ∈ xs := List.getElem_mem hk1
    rw [hmid, hyl]
    generalize isort c (xs.take (k + 1)) = ys at hyl hys hdone
    generalize xs[k + 1] = x at hx hdone
    simp (config := {contextual := true}) [List.range, List.range.loop, ints, intss, int, bool, row, frac, fracs, ← List.map_take, ← List.map_drop, hc.res, hc.refs, hc.ren, hc.killN, hlt]
    refine awp_loop_of (live := [true, true, true, true, false, false, false, false, true, true, false, false, false, false, true, false, false, false, false, false, false, false, false, false, false, false, false, false, false, false, false, false, false, false, true]) (ctx_ok eqOk hG) mixed [true, true, true, true, false, false, false, false, true, true] (α := {j : Nat // j ≤ k + 1 ∧ insFrom c ys x j = ins c ys x}) (fun j => ⟨[.ref 0 [] 0 xs.length, int 0, int xs.length, .fn g caps, .junk, .junk, .junk, .junk, int ((k : Int) + 1), int (j.1 : Int), .junk, .junk, .junk, .junk, .junk, .junk, .junk, .junk, .junk, .junk, .junk, .junk, .junk, .junk, .junk, .junk, .junk, .junk, .junk, .junk, .junk, .junk, .junk, .junk, .junk, .junk, .junk, .junk, .junk, .junk, .junk, .junk, .junk, .junk, .junk, .junk, .junk, .junk, .junk, .junk, .junk, .junk, .junk], [⟨true, .sl nl 1 ((midd ys x j.1 (xs.drop (k + 1 + 1))).map int)⟩]⟩) (fun j => j.1) ⟨k + 1, Nat.le_refl _, by rw [ins, hyl]⟩ (by simp [sub, slotsLe, clean, keep, refsL, refs, once, place, renL, ren, List.replicate, int, bool, hc.refs, hc.ren, hc.killN]) ?_
    rintro ⟨j, hj, hji⟩
    have hml := midd_len (ys := ys) (x := x) (j := j) (rest := xs.drop (k + 1 + 1))
    have hml2 : (midd ys x j (xs.drop (k + 1 + 1))).length = xs.length := by rw [hml, hyl]; simp; omega
    cases j with
    | zero =>
      have hd := hdone 0 hji (.inl rfl)
      simp (config := {contextual := true}) [List.range, List.range.loop, ints, intss, int, bool, row, frac, fracs, ← List.map_take, ← List.map_drop, hc.res, hc.refs, hc.ren, hc.killN, hd, hw2, hml2, List.eraseIdx]
      done
    | succ j =>
      have hjl : j + 1 < xs.length := by omega
      have hjl2 : j < xs.length := by omega
      have hgt : (0 < (j : Int) + 1) := by omega
      have hwj : IntKind.i64.wrap (j : Int) = j := wrapI (by omega) (by omega)
      obtain ⟨_, a1⟩ := List.getElem?_eq_some_iff.1 (midd_at (ys := ys) (x := x) (j := j + 1) (rest := xs.drop (k + 1 + 1)) (by omega))
      obtain ⟨_, a2⟩ := List.getElem?_eq_some_iff.1 (midd_before (ys := ys) (x := x) (k := j) (rest := xs.drop (k + 1 + 1)) (by omega))
      have a3 := midd_swap (ys := ys) (x := x) (k := j) (rest := xs.drop (k + 1 + 1)) (by omega)
      have hyj : ys.getD j 0 ∈ xs := hys _ (by rw [List.getD_eq_getElem?_getD, List.getElem?_eq_getElem (by omega)]; exact List.getElem_mem _)
      have hc1 := hat x (ys.getD j 0) hx hyj
      have hd := fun h => hdone (j + 1) hji (.inr ⟨j, rfl, h⟩)
      have hml3 : (midd ys x j (xs.drop (k + 1 + 1))).length = xs.length := by rw [midd_len, hyl]; simp; omega
      rw [insFrom] at hji
      generalize ys.getD j 0 = y at *
      by_cases hcc : c x y < 0
      · rw [if_pos hcc] at hji
        simp (config := {contextual := true}) [List.range, List.range.loop, ints, intss, int, bool, row, frac, fracs, ← List.map_take, ← List.map_drop, hc.res, hc.refs, hc.ren, hc.killN, hml2, hml3, hjl, hjl2, hgt, hwj, a1, a2, a3, hc1, hcc, List.eraseIdx]
        exact ⟨⟨j, by omega, hji⟩, by simp [sub, slotsLe, clean, keep, refsL, refs, once, place, renL, ren, List.replicate, int, bool, hc.refs, hc.ren, hc.killN], by simp⟩
      · have hd := hd hcc
        simp (config := {contextual := true}) [List.range, List.range.loop, ints, intss, int, bool, row, frac, fracs, ← List.map_take, ← List.map_drop, hc.res, hc.refs, hc.ren, hc.killN, hml2, hml3, hjl, hjl2, hgt, hwj, a1, a2, hc1, hcc, hw2, List.eraseIdx]
        rw [hd]
  · intro _
    have hlt : ¬ (((xs.length - 1 : Nat) : Int) + 1 < (xs.length : Int)) := by omega
    have ha := srtTo_all (c := c) (xs := xs) (i := xs.length - 1 + 1) (by omega)
    have hil := isort_len (c := c) xs
    simp (config := {contextual := true}) [List.range, List.range.loop, ints, intss, int, bool, row, frac, fracs, ← List.map_take, ← List.map_drop, hc.res, hc.refs, hc.ren, hc.killN, hlt, ha, hil, List.eraseIdx]
    done

set_option maxHeartbeats 2000000 in
theorem stable_ok {g : FuncId} {caps : List AV} (hc : Pure caps) (c : Int → Int → Int) (nl : Bool) (xs : List Int) (hn : xs.length < 20)
    (hg : ∀ x ∈ xs, ∀ y ∈ xs, CallOk Try.prog g (.v (.int .i64 x) :: .v (.int .i64 y) :: caps) (.v (.int .i64 (c x y)))) :
    MutOk Try.prog 148 [ints nl xs, int xs.length, .fn g caps] 0 (.tup []) (ints nl (isort c xs)) := by
  have hi : FnMut Try.prog 157 (mkM (fun _ : Unit => True) (fun _ => [ints nl xs, int 0, int xs.length, .fn g caps]) (fun _ => (0, .tup [], ints nl (isort c xs)))) := mkM_ok fun _ _ => insertion_ok hc c nl xs (by omega) hg
  have hat : mkM (fun _ : Unit => True) (fun _ => [ints nl xs, int 0, int xs.length, .fn g caps]) (fun _ => (0, .tup [], ints nl (isort c xs))) [.sl nl 1 (xs.map int), .v (.int .i64 0), .v (.int .i64 xs.length), .fn g caps] = some (0, .tup [], .sl nl 1 ((isort c xs).map int)) := mkM_eq (enc := fun _ : Unit => [ints nl xs, int 0, int xs.length, .fn g caps]) (x := ()) (fun _ _ _ => rfl) trivial
  generalize mkM (fun _ : Unit => True) (fun _ => [ints nl xs, int 0, int xs.length, .fn g caps]) (fun _ => (0, AV.tup [], ints nl (isort c xs))) = m at hi hat
  have hG : FnsOk Try.prog [] := .nil
  have hM : FnsMut Try.prog [(157, m)] := .cons hi .nil
  have hl := isort_len (c := c) xs
  have h20 : ¬ (20 : Int) ≤ xs.length := by omega
  have h20' : ¬ (20 : Int) < xs.length := by omega
  refine mutOk_awp (ctxM_ok eqOk hG hM) mixed (live := [true, true, true, false, false, false, true, true, true, true, false, false, false, true, false, false, false, false, false, false, false, false, false, false, false, false, false, false, false, false, true, false, false, false, false, true, false, false, false, false, false, false, false, false, false, false, false, false, false, false, false, false, false, false, true]) (dt := []) (pos := 0) rfl Try.func148 rfl (by kernel_rfl) (by kernel_rfl) fun US Uv w0 hlens => ?_
  simp [Try.f148, List.range, List.range.loop, ints, intss, int, bool, row, frac, fracs, ← List.map_take, ← List.map_drop, hc.res, hc.refs, hc.ren, hc.killN]
  refine awp_loop_of (live := [true, true, true, false, false, false, true, true, true, true, false, false, false, true, false, false, false, false, false, false, false, false, false, false, false, false, false, false, false, false, true, false, false, false, false, true, false, false, false, false, false, false, false, false, false, false, false, false, false, false, false, false, false, false, true]) (ctxM_ok eqOk hG hM) mixed [true, true, true, false, false, false, true, true, true] (α := Unit) (fun u => ⟨[.ref 0 [] 0 xs.length, int xs.length, .fn g caps, .junk, .junk, .junk, int 20, int 0, int 20, .junk, .junk, .junk, .junk, .junk, .junk, .junk, .junk, .junk, .junk, .junk, .junk, .junk, .junk, .junk, .junk, .junk, .junk, .junk, .junk, .junk, .junk, .junk, .junk, .junk, .junk, .junk, .junk, .junk, .junk, .junk, .junk, .junk, .junk, .junk, .junk, .junk, .junk, .junk, .junk, .junk, .junk, .junk, .junk, .junk, .junk, .junk, .junk, .junk, .junk, .junk, .junk, .junk, .junk], [⟨true, .sl nl 1 (xs.map int)⟩]⟩) (fun u => 0) () (by simp [sub, slotsLe, clean, keep, refsL, refs, once, place, renL, ren, List.replicate, int, bool, hc.refs, hc.ren, hc.killN]) ?_
  rintro ⟨⟩
  simp [List.range, List.range.loop, ints, intss, int, bool, row, frac, fracs, ← List.map_take, ← List.map_drop, List.eraseIdx, hc.res, hc.refs, hc.ren, hc.killN, h20, hat, hl]
  refine awp_loop_of (live := [true, true, true, false, false, false, true, true, true, true, false, false, false, true, false, false, false, false, false, false, false, false, false, false, false, false, false, false, false, false, true, false, false, false, false, true, false, false, false, false, false, false, false, false, false, false, false, false, false, false, false, false, false, false, true]) (ctxM_ok eqOk hG hM) mixed [true, true, true, false, false, false, true] (α := Unit) (fun u => ⟨[.ref 0 [] 0 xs.length, int xs.length, .fn g caps, .junk, .junk, .junk, int 20, .junk, .junk, .junk, .junk, .junk, .junk, .junk, .junk, .junk, .junk, .junk, .junk, .junk, .junk, .junk, .junk, .junk, .junk, .junk, .junk, .junk, .junk, .junk, .junk, .junk, .junk, .junk, .junk, .junk, .junk, .junk, .junk, .junk, .junk, .junk, .junk, .junk, .junk, .junk, .junk, .junk, .junk, .junk, .junk, .junk, .junk, .junk, .junk, .junk, .junk, .junk, .junk, .junk, .junk, .junk, .junk], [⟨true, .sl nl 1 ((isort c xs).map int)⟩]⟩) (fun u => 0) () (by simp [sub, slotsLe, clean, keep, refsL, refs, once, place, renL, ren, List.replicate, int, bool, hc.refs, hc.ren, hc.killN]) ?_
  rintro ⟨⟩
  simp [List.range, List.range.loop, ints, intss, int, bool, row, frac, fracs, ← List.map_take, ← List.map_drop, List.eraseIdx, hc.res, hc.refs, hc.ren, hc.killN, h20', hl]

/-- slices.SortStableFunc of fewer than twenty ints. -/
theorem sort_ok {g : FuncId} {caps : List AV} (hc : Pure caps) (c : Int → Int → Int) (nl : Bool) (xs : List Int) (hn : xs.length < 20)
    (hg : ∀ x ∈ xs, ∀ y ∈ xs, CallOk Try.prog g (.v (.int .i64 x) :: .v (.int .i64 y) :: caps) (.v (.int .i64 (c x y)))) :
    MutOk Try.prog 126 [ints nl xs, .fn g caps] 0 (.tup []) (ints nl (isort c xs)) := by
  have hi : FnMut Try.prog 148 (mkM (fun _ : Unit => True) (fun _ => [ints nl xs, int xs.length, .fn g caps]) (fun _ => (0, .tup [], ints nl (isort c xs)))) := mkM_ok fun _ _ => stable_ok hc c nl xs hn hg
  have hat : mkM (fun _ : Unit => True) (fun _ => [ints nl xs, int xs.length, .fn g caps]) (fun _ => (0, .tup [], ints nl (isort c xs))) [.sl nl 1 (xs.map int), .v (.int .i64 xs.length), .fn g caps] = some (0, .tup [], .sl nl 1 ((isort c xs).map int)) := mkM_eq (enc := fun _ : Unit => [ints nl xs, int xs.length, .fn g caps]) (x := ()) (fun _ _ _ => rfl) trivial
  generalize mkM (fun _ : Unit => True) (fun _ => [ints nl xs, int xs.length, .fn g caps]) (fun _ => (0, AV.tup [], ints nl (isort c xs))) = m at hi hat
  have hG : FnsOk Try.prog [] := .nil
  have hM : FnsMut Try.prog [(148, m)] := .cons hi .nil
  have hl := isort_len (c := c) xs
  refine mutOk_awp (ctxM_ok eqOk hG hM) mixed (live := [true, true]) (dt := []) (pos := 0) rfl Try.func126 rfl (by kernel_rfl) (by kernel_rfl) fun US Uv w0 hlens => ?_
  simp [Try.f126, List.range, List.range.loop, ints, intss, int, bool, row, frac, fracs, ← List.map_take, ← List.map_drop, List.eraseIdx, hc.res, hc.refs, hc.ren, hc.killN, hat, hl]

end Go.Proofs.Ytkfgmpmeipilnaa.Ax
