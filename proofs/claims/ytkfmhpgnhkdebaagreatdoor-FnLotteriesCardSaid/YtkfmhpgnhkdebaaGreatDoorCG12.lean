/-
  Fractions of a common divisor: sums, differences and quotients of them. No condition.
-/
import Derived.Test.YtkfmhpgnhkdebaaGreatDoorCG11
import Derived.Test.YtkfmhpgnhkdebaaGreatDoorCG2
import Derived.Test.YtkfmhpgnhkdebaaGreatDoorCG7
import Derived.Test.YtkfmhpgnhkdebaaGreatDoorCG10
import Derived.Test.YtkfmhpgnhkdebaaGreatDoorCG3
import Derived.Test.YtkfmhpgnhkdebaaGreatDoorCG5
namespace Go.Proofs.YtkfmhpgnhkdebaaGreatDoor.Ax
open Go Go.RowKit
set_option linter.unusedSimpArgs false
def qd (a D : Int) : Int × Int := ((Rat.divInt a D).num, ((Rat.divInt a D).den : Int))
theorem red_num {t b : Int} (hb : 0 < b) : (Rat.divInt t b).num = t.tdiv (Int.gcd t b) ∧ ((Rat.divInt t b).den : Int) = b.tdiv (Int.gcd t b) := by
  obtain ⟨g1, g2⟩ := gcd_bd (x := t) (y := b) (by omega)
  have hd1 : (Int.gcd t b : Int) ∣ t := Int.gcd_dvd_left ..
  have hd2 : (Int.gcd t b : Int) ∣ b := Int.gcd_dvd_right ..
  constructor
  · rw [Rat.num_divInt]
    have hs : b.sign = 1 := Int.sign_eq_one_of_pos hb
    rw [hs, Int.one_mul, Int.gcd_comm]
    exact (Int.tdiv_eq_ediv_of_dvd hd1).symm
  · rw [Rat.den_divInt, if_neg (by omega)]
    rw [Int.tdiv_eq_ediv_of_dvd hd2, Int.natCast_ediv, Int.gcd_comm]
    congr 1
    omega
theorem mkF_qd {t b : Int} (hb : 0 < b) : mkF t b = if fracOk (qd t b) = true then (qd t b, true) else ((0, 0), false) := by
  obtain ⟨h1, h2⟩ := red_num (t := t) hb
  unfold mkF qd
  rw [h1, h2]
theorem qd_val {a D : Int} : val (qd a D) = Rat.divInt a D := by unfold val qd; exact Rat.num_divInt_den _
theorem qd_congr {a D b E : Int} (h : Rat.divInt a D = Rat.divInt b E) : qd a D = qd b E := by unfold qd; rw [h]
theorem qd_ok {a D : Int} (hD : 0 < D) (hD1 : D ≤ 1000000000) (ha : -1000000000 ≤ a ∧ a ≤ 1000000000) : fracOk (qd a D) = true := by
  obtain ⟨h1, h2⟩ := red_num (t := a) hD
  obtain ⟨g1, g2⟩ := gcd_bd (x := a) (y := D) (by omega)
  have hden : (1 : Int) ≤ (Rat.divInt a D).den := by have := (Rat.divInt a D).den_pos; omega
  have hde : ((Rat.divInt a D).den : Int) ≤ 1000000000 := by
    have := tdiv_bd (x := D) (y := Int.gcd a D) (m := 1000000000) (by omega) (by omega)
    rw [h2]; omega
  have hnu : -1000000000 ≤ (Rat.divInt a D).num ∧ (Rat.divInt a D).num ≤ 1000000000 := by
    have := tdiv_bd (x := a) (y := Int.gcd a D) (m := 1000000000) (by omega) (by omega)
    rw [h1]; omega
  have hco : Int.gcd (Rat.divInt a D).num ((Rat.divInt a D).den : Int) = 1 := by
    have := (Rat.divInt a D).reduced
    rw [Nat.coprime_iff_gcd_eq_one] at this
    rw [← this]; simp [Int.gcd]
  unfold fracOk qd
  simp only [Bool.and_eq_true, decide_eq_true_eq]
  refine ⟨⟨?_, ?_⟩, ?_⟩ <;> first | omega | simp [hco] | (exact_mod_cast hco)
theorem qd_parts {a D : Int} (hD : 0 < D) : ∃ g : Int, 0 < g ∧ (qd a D).1 * g = a ∧ (qd a D).2 * g = D := by
  obtain ⟨h1, h2⟩ := red_num (t := a) hD
  obtain ⟨g1, g2⟩ := gcd_bd (x := a) (y := D) (by omega)
  refine ⟨(Int.gcd a D : Int), by omega, ?_, ?_⟩
  · show (Rat.divInt a D).num * _ = a
    rw [h1]; exact Int.tdiv_mul_cancel (Int.gcd_dvd_left ..)
  · show ((Rat.divInt a D).den : Int) * _ = D
    rw [h2]; exact Int.tdiv_mul_cancel (Int.gcd_dvd_right ..)
theorem qd_scale {a D c : Int} (hc : 0 < c) : qd (c * a) (c * D) = qd a D := qd_congr (Rat.divInt_mul_left (by omega))
theorem qd_pos {a D : Int} (hD : 0 < D) : 0 < (qd a D).1 ↔ 0 < a := by
  obtain ⟨g, h0, h1, _⟩ := qd_parts (a := a) hD
  constructor
  · intro h
    have := Int.mul_pos h h0
    rw [h1] at this; exact this
  · intro h
    rcases Int.lt_or_le 0 (qd a D).1 with h2 | h2
    · exact h2
    · have := Int.mul_nonneg (show 0 ≤ -(qd a D).1 by omega) (show (0 : Int) ≤ g by omega)
      rw [Int.neg_mul, h1] at this
      omega
theorem qd_den {a D : Int} (hD : 0 < D) : 0 < (qd a D).2 := by
  obtain ⟨g, h0, _, h2⟩ := qd_parts (a := a) hD
  rcases Int.lt_or_le 0 (qd a D).2 with h | h
  · exact h
  · have := Int.mul_nonneg (show 0 ≤ -(qd a D).2 by omega) (show (0 : Int) ≤ g by omega)
    rw [Int.neg_mul, h2] at this
    omega
theorem add_divInt {a b D : Int} (hD : 0 < D) : Rat.divInt a D + Rat.divInt b D = Rat.divInt (a + b) D := by
  rw [Rat.divInt_add_divInt _ _ (by omega) (by omega)]
  have e : a * D + b * D = D * (a + b) := by rw [← Int.add_mul, Int.mul_comm]
  rw [e]
  exact Rat.divInt_mul_left (by omega)
theorem addF_qd {a b D : Int} (hD : 0 < D) (hD1 : D ≤ 1000000000) (ha : -1000000000 ≤ a ∧ a ≤ 1000000000) (hb : -1000000000 ≤ b ∧ b ≤ 1000000000) (hab : -1000000000 ≤ a + b ∧ a + b ≤ 1000000000) : addF (qd a D) (qd b D) = (qd (a + b) D, true) := by
  have h1 := qd_ok hD hD1 ha
  have h2 := qd_ok hD hD1 hb
  have h3 := qd_ok hD hD1 hab
  have p1 := qd_den (a := a) hD
  have p2 := qd_den (a := b) hD
  unfold addF
  rw [h1, h2]
  simp only [Bool.and_self, if_true]
  rw [mkF_qd (Int.mul_pos p1 p2)]
  have e : qd ((qd a D).1 * (qd b D).2 + (qd b D).1 * (qd a D).2) ((qd a D).2 * (qd b D).2) = qd (a + b) D := by
    refine qd_congr ?_
    rw [← Rat.divInt_add_divInt _ _ (by omega) (by omega)]
    have v1 : Rat.divInt (qd a D).1 (qd a D).2 = Rat.divInt a D := qd_val (a := a) (D := D)
    have v2 : Rat.divInt (qd b D).1 (qd b D).2 = Rat.divInt b D := qd_val (a := b) (D := D)
    rw [v1, v2, add_divInt hD]
  rw [e, if_pos h3]
theorem neg_qd {a D : Int} : (-(qd a D).1, (qd a D).2) = qd (-a) D := by
  unfold qd
  have : Rat.divInt (-a) D = -(Rat.divInt a D) := (Rat.neg_divInt _ _).symm
  rw [this]; rfl
theorem subF_qd {a b D : Int} (hD : 0 < D) (hD1 : D ≤ 1000000000) (ha : -1000000000 ≤ a ∧ a ≤ 1000000000) (hb : -1000000000 ≤ b ∧ b ≤ 1000000000) (hab : -1000000000 ≤ a - b ∧ a - b ≤ 1000000000) : subF (qd a D) (qd b D) = (qd (a - b) D, true) := by
  unfold subF
  rw [neg_qd, addF_qd hD hD1 ha (by omega) (by omega)]
  rfl
theorem cmpF_qd {a b D : Int} (hD : 0 < D) (hD1 : D ≤ 1000000000) (ha : -1000000000 ≤ a ∧ a ≤ 1000000000) (hb : -1000000000 ≤ b ∧ b ≤ 1000000000) : cmpF (qd a D) (qd b D) = cmpI a b := by
  have h1 := qd_ok hD hD1 ha
  have h2 := qd_ok hD hD1 hb
  obtain ⟨g1, p1, e1, f1⟩ := qd_parts (a := a) hD
  obtain ⟨g2, p2, e2, f2⟩ := qd_parts (a := b) hD
  have key : ∀ x y : Int, (x = (qd a D).1 * (qd b D).2) → (y = (qd b D).1 * (qd a D).2) → (x < y ↔ a < b) ∧ (y < x ↔ b < a) := by
    intro x y hx hy
    have k1 : x * (g1 * g2) = a * D := by
      have : a * D = ((qd a D).1 * g1) * ((qd b D).2 * g2) := by rw [e1, f2]
      rw [hx, this]; simp only [Int.mul_assoc, Int.mul_left_comm, Int.mul_comm]
    have k2 : y * (g1 * g2) = b * D := by
      have : b * D = ((qd b D).1 * g2) * ((qd a D).2 * g1) := by rw [e2, f1]
      rw [hy, this]; simp only [Int.mul_assoc, Int.mul_left_comm, Int.mul_comm]
    have hg : 0 < g1 * g2 := Int.mul_pos p1 p2
    constructor
    · rw [← Int.mul_lt_mul_right hg, k1, k2, Int.mul_lt_mul_right hD]
    · rw [← Int.mul_lt_mul_right hg, k1, k2, Int.mul_lt_mul_right hD]
  obtain ⟨k1, k2⟩ := key _ _ rfl rfl
  unfold cmpF cmpI
  rw [h1, h2]
  simp only [Bool.and_self, if_true, k1, k2]
theorem divF_qd {a D k : Int} (hD : 0 < D) (hk : 0 < k) (hDk : D * k ≤ 1000000000) (ha : -1000000000 ≤ a ∧ a ≤ 1000000000) : mkF (qd a D).1 ((qd a D).2 * k) = (qd a (D * k), true) := by
  have p1 := qd_den (a := a) hD
  rw [mkF_qd (Int.mul_pos p1 hk)]
  have h3 := qd_ok (Int.mul_pos hD hk) hDk ha
  have e : qd (qd a D).1 ((qd a D).2 * k) = qd a (D * k) := by
    obtain ⟨g, p2, e1, f1⟩ := qd_parts (a := a) hD
    have h := qd_scale (a := (qd a D).1) (D := (qd a D).2 * k) p2
    rw [← h]
    have e2 : g * (qd a D).1 = a := by rw [Int.mul_comm]; exact e1
    have e3 : g * ((qd a D).2 * k) = D * k := by rw [← Int.mul_assoc, Int.mul_comm g]; rw [f1]
    rw [e2, e3]
  rw [e, if_pos h3]
end Go.Proofs.YtkfmhpgnhkdebaaGreatDoor.Ax
namespace Go.Proofs.YtkfmhpgnhkdebaaGreatDoor.Ax
open Go Go.RowKit
set_option linter.unusedSimpArgs false
def pre (xss : List (Bool × List Int)) (i : Nat) : Nat → Int
  | 0 => 0
  | m + 1 => pre xss i m + ent xss i m
end Go.Proofs.YtkfmhpgnhkdebaaGreatDoor.Ax
namespace Go.Proofs.YtkfmhpgnhkdebaaGreatDoor.Ax
open Go Go.RowKit
set_option linter.unusedSimpArgs false
def lf (dn : List Bool) : List Int := selTo (fun i => !dn.getD i true) dn.length
end Go.Proofs.YtkfmhpgnhkdebaaGreatDoor.Ax
namespace Go.Proofs.YtkfmhpgnhkdebaaGreatDoor.Ax
open Go Go.RowKit
end Go.Proofs.YtkfmhpgnhkdebaaGreatDoor.Ax
namespace Go.Proofs.YtkfmhpgnhkdebaaGreatDoor.Ax
open Go Go.RowKit
set_option linter.unusedSimpArgs false
noncomputable def mGrow : List AV → Option AV := mk (fun p => p ≤ 1000000) (fun (p : Nat) => [.sl true 1 [], int (p : Int)]) (fun p => .sl (decide (p = 0)) 1 [])
theorem mGrow_at (n : Nat) (h : n ≤ 1000000) : mGrow [.sl true 1 [], .v (.int .i64 (n : Int))] = some (.sl (decide (n = 0)) 1 []) :=
  mk_eq (enc := fun (p : Nat) => [.sl true 1 [], int (p : Int)]) (x := n) (by intro a b h; simp [int] at h; exact (by omega : a = b) ▸ rfl) h
theorem growI_ok : FnOk Tryz.prog 263 mGrow := by
  refine mk_ok fun n hn => ?_
  have hG : FnsOk Tryz.prog [] := .nil
  refine callOk_awp (ctx_ok eqOk hG) mixed (live := [true, true, false, false, true, false, true, false, false, false, false, false, false, false, false, false, true]) (dt := []) Tryz.func263 rfl (by kernel_rfl) (by kernel_rfl) fun w0 hlens => ?_
  clear hlens
  have h1 : ¬ ((n : Int) < 0) := by omega
  have h2 : IntKind.i64.wrap (n : Int) = (n : Int) := wrapI (by omega) (by omega)
  have hz : IntKind.i64.wrap 0 = 0 := by decide
  by_cases h0 : n = 0
  · subst h0
    simp (config := {contextual := true}) [Tryz.f263, List.range, List.range.loop, ints, intss, int, bool, row, frac, fracs, ← List.map_take, ← List.map_drop, h1, h2, hz]
  · have h3 : 0 < n := by omega
    have h4 : n ≤ 4611686018427387904 ∧ n * 8 ≤ 140737488355328 := by omega
    have h0' : ¬ (0 = n) := by omega
    simp (config := {contextual := true}) [Tryz.f263, List.range, List.range.loop, ints, intss, int, bool, row, frac, fracs, ← List.map_take, ← List.map_drop, h0, h0', h1, h2, hz, h3, h4]
def cat (xss : List (Bool × List Int)) : List Int := xss.flatMap (·.2)
def catTo (xss : List (Bool × List Int)) (k : Nat) : List Int := (xss.take k).flatMap (·.2)
theorem catTo_succ {xss : List (Bool × List Int)} {k : Nat} (h : k < xss.length) : catTo xss (k + 1) = catTo xss k ++ xss[k].2 := by
  unfold catTo
  rw [List.take_succ_eq_append_getElem h, List.flatMap_append]; simp
theorem catTo_all {xss : List (Bool × List Int)} : catTo xss xss.length = cat xss := by simp [catTo, cat]
theorem catTo_le {xss : List (Bool × List Int)} : ∀ {k : Nat}, (catTo xss k).length ≤ (cat xss).length := by
  intro k
  unfold catTo cat
  conv => rhs; rw [← List.take_append_drop k xss, List.flatMap_append]
  simp
noncomputable def mConcat : List AV → Option AV := mk (fun p => p.2.length ≤ 1000 ∧ (cat p.2).length ≤ 1000000) (fun (p : Bool × List (Bool × List Int)) => [intss p.1 p.2]) (fun p => .sl (decide (cat p.2 = [])) 1 ((cat p.2).map int))
theorem mConcat_at (nl : Bool) (xss : List (Bool × List Int)) (h : xss.length ≤ 1000 ∧ (cat xss).length ≤ 1000000) : mConcat [.sl nl 1 (xss.map row)] = some (.sl (decide (cat xss = [])) 1 ((cat xss).map int)) :=
  mk_eq (enc := fun (p : Bool × List (Bool × List Int)) => [intss p.1 p.2]) (x := (nl, xss)) (by rintro ⟨a, b⟩ ⟨c, d⟩ h; simp [intss, map_row_inj] at h; simp [h]) h
set_option maxHeartbeats 1000000 in
theorem concatI_ok : FnOk Tryz.prog 227 mConcat := by
  refine mk_ok fun ⟨nl, xss⟩ ⟨hl, ht⟩ => ?_
  simp only at hl ht
  have hG : FnsOk Tryz.prog [(263, mGrow)] := (.cons growI_ok .nil)
  refine callOk_awp (ctx_ok eqOk hG) mixed (live := [true, false, true, true, false, true, true, false, true, true, true, true, true, false, false, false, false, false, false, false, true, false, false, false, false, true, true, true, true]) (dt := []) Tryz.func227 rfl (by kernel_rfl) (by kernel_rfl) fun w0 hlens => ?_
  clear hlens
  simp (config := {contextual := true}) [Tryz.f227, List.range, List.range.loop, ints, intss, int, bool, row, frac, fracs, ← List.map_take, ← List.map_drop]
  refine awp_range (live := [true, false, true, true, false, true, true, false, true, true, true, true, true, false, false, false, false, false, false, false, true, false, false, false, false, true, true, true, true]) (ctx_ok eqOk hG) mixed [true, false, false, true, false, false, false, false, false, true, true, true] (xss.length) (fun k => True) (fun k => ⟨[intss nl xss, .junk, .junk, int ((catTo xss k).length : Int), .junk, .junk, .junk, .junk, .junk, intss nl xss, int xss.length, int k, .junk, .junk, .junk, .junk, .junk, .junk, .junk, .junk, .junk, .junk, .junk, .junk, .junk, .junk, .junk, .junk, .junk, .junk, .junk, .junk, .junk, .junk, .junk, .junk], []⟩) ?_ (by simp [sub, slotsLe, clean, keep, refsL, refs, once, place, renL, ren, List.replicate, int, bool, intss, catTo]) ?_ ?_ ?_
  · omega
  · trivial
  · intro k hk _ hwk
    have hs := catTo_succ hk
    have hle := catTo_le (xss := xss) (k := k + 1)
    rw [hs, List.length_append] at hle
    have hw2 : IntKind.i64.wrap (((catTo xss k).length : Int) + (xss[k].2.length : Int)) = ((catTo xss k).length : Int) + (xss[k].2.length : Int) := wrapI (by omega) (by omega)
    have hno : ¬ (((catTo xss k).length : Int) + (xss[k].2.length : Int) < 0) := by omega
    simp (config := {contextual := true}) [List.range, List.range.loop, ints, intss, int, bool, row, frac, fracs, ← List.map_take, ← List.map_drop, hk, hwk, hs, hw2, hno]
  · intro _
    rw [catTo_all]
    have hg := mGrow_at _ ht
    have hd : decide ((cat xss).length = 0) = decide (cat xss = []) := decide_eq_decide.2 List.length_eq_zero_iff
    rw [hd] at hg
    simp (config := {contextual := true}) [List.range, List.range.loop, ints, intss, int, bool, row, frac, fracs, ← List.map_take, ← List.map_drop, hg]
    generalize hD : decide (cat xss = []) = D at hg
    have hDk : ∀ k (hk : k < xss.length), D = true → xss[k].2 = [] := fun k hk hd => by
      subst hD
      have h0 : cat xss = [] := by simpa using hd
      have : xss[k].2 ∈ xss.map (·.2) := List.mem_map.2 ⟨_, List.getElem_mem hk, rfl⟩
      simp only [cat, List.flatMap_eq_nil_iff] at h0
      exact h0 _ (List.getElem_mem hk)
    refine awp_range (live := [true, false, true, true, false, true, true, false, true, true, true, true, true, false, false, false, false, false, false, false, true, false, false, false, false, true, true, true, true]) (ctx_ok eqOk hG) mixed [false, false, false, false, false, false, true, false, false, false, false, false, false, false, false, false, false, false, false, false, false, false, false, false, false, true, true, true] (xss.length) (fun k => True) (fun k => ⟨[.junk, .junk, .junk, .junk, .junk, .junk, .ref 0 [] 0 (catTo xss k).length, .junk, .junk, .junk, .junk, .junk, .junk, .junk, .junk, .junk, .junk, .junk, .junk, .junk, .junk, .junk, .junk, .junk, .junk, intss nl xss, int xss.length, int k, .junk, .junk, .junk, .junk, .junk, .junk, .junk, .junk], [⟨true, .sl D 1 ((catTo xss k).map int)⟩]⟩) ?_ (by simp [sub, slotsLe, clean, keep, refsL, refs, once, place, renL, ren, List.replicate, int, bool, intss, catTo]) ?_ ?_ ?_
    · omega
    · trivial
    · intro k hk _ hwk
      have hs := catTo_succ hk
      have hle := catTo_le (xss := xss) (k := k + 1)
      rw [hs, List.length_append] at hle
      have hb : (catTo xss k).length + xss[k].2.length ≤ 4611686018427387904 ∧ ((catTo xss k).length + xss[k].2.length) * 8 ≤ 140737488355328 := by omega
      cases hDD : D with
      | true =>
        have hx0 := hDk k hk hDD
        have hb2 : (catTo xss k).length ≤ 4611686018427387904 ∧ (catTo xss k).length * 8 ≤ 140737488355328 := by omega
        simp (config := {contextual := true}) [List.range, List.range.loop, ints, intss, int, bool, row, frac, fracs, ← List.map_take, ← List.map_drop, hk, hwk, hs, hb2, hx0]
      | false =>
        simp (config := {contextual := true}) [List.range, List.range.loop, ints, intss, int, bool, row, frac, fracs, ← List.map_take, ← List.map_drop, hk, hwk, hs, hb]
    · intro _
      simp (config := {contextual := true}) [List.range, List.range.loop, ints, intss, int, bool, row, frac, fracs, ← List.map_take, ← List.map_drop, catTo_all]
end Go.Proofs.YtkfmhpgnhkdebaaGreatDoor.Ax
