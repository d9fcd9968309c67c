/-
  Fractions of a common divisor: sums, differences and quotients of them. No condition.
-/
import Derived.Test.YtkfgmpmeipilnaaCG3
import Derived.Test.YtkfgmpmeipilnaaCG4
import Derived.Test.YtkfgmpmeipilnaaCB2
import Derived.Test.YtkfgmpmeipilnaaCK4
import Derived.Test.YtkfgmpmeipilnaaCG2
import Derived.Shelf.Lay
import Derived.Ground.SlgnProg
import Derived.Shelf.SlicesE.Delete
namespace Go.Proofs.Ytkfgmpmeipilnaa.Ax
open Go Go.RowKit
set_option linter.unusedSimpArgs false

/-- a parts of D, in the least terms. -/
def qd (a D : Int) : Int × Int := ((Rat.divInt a D).num, ((Rat.divInt a D).den : Int))

theorem red_num {t b : Int} (hb : 0 < b) : (Rat.divInt t b).num = t.tdiv (Int.gcd t b) ∧ ((Rat.divInt t b).den : Int) = b.tdiv (Int.gcd t b) := by
  obtain ⟨g1, g2⟩ := gcd_bd (x := t) (y := b) (by omega)
  have hd1 : (Int.gcd t b : Int) ∣ t := Int.gcd_dvd_left ..
  have hd2 : (Int.gcd t b : Int) ∣ b := Int.gcd_dvd_right ..
  constructor
  · rw [Rat.num_divInt]
    have hs : b.sign = 1 := Int.sign_eq_one_of_pos hb
    rw [hs, Int.one_mul, Int.gcd_comm]
    exact (Int.tdiv_eq_ediv_of_dvd hd1).symm
  · rw [Rat.den_divInt, if_neg (by omega)]
    rw [Int.tdiv_eq_ediv_of_dvd hd2, Int.natCast_ediv, Int.gcd_comm]
    congr 1
    omega

theorem mkF_qd {t b : Int} (hb : 0 < b) : mkF t b = if fracOk (qd t b) = true then (qd t b, true) else ((0, 0), false) := by
  obtain ⟨h1, h2⟩ := red_num (t := t) hb
  unfold mkF qd
  rw [h1, h2]

theorem qd_val {a D : Int} : val (qd a D) = Rat.divInt a D := by unfold val qd; exact Rat.num_divInt_den _
theorem qd_congr {a D b E : Int} (h : Rat.divInt a D = Rat.divInt b E) : qd a D = qd b E := by unfold qd; rw [h]

theorem qd_ok {a D : Int} (hD : 0 < D) (hD1 : D ≤ 1000000000) (ha : -1000000000 ≤ a ∧ a ≤ 1000000000) : fracOk (qd a D) = true := by
  obtain ⟨h1, h2⟩ := red_num (t := a) hD
  obtain ⟨g1, g2⟩ := gcd_bd (x := a) (y := D) (by omega)
  have hden : (1 : Int) ≤ (Rat.divInt a D).den := by have := (Rat.divInt a D).den_pos; omega
  have hde : ((Rat.divInt a D).den : Int) ≤ 1000000000 := by
    have := tdiv_bd (x := D) (y := Int.gcd a D) (m := 1000000000) (by omega) (by omega)
    rw [h2]; omega
  have hnu : -1000000000 ≤ (Rat.divInt a D).num ∧ (Rat.divInt a D).num ≤ 1000000000 := by
    have := tdiv_bd (x := a) (y := Int.gcd a D) (m := 1000000000) (by omega) (by omega)
    rw [h1]; omega
  have hco : Int.gcd (Rat.divInt a D).num ((Rat.divInt a D).den : Int) = 1 := by
    have := (Rat.divInt a D).reduced
    rw [Nat.coprime_iff_gcd_eq_one] at this
    rw [← this]; simp [Int.gcd]
  unfold fracOk qd
  simp only [Bool.and_eq_true, decide_eq_true_eq]
  refine ⟨⟨?_, ?_⟩, ?_⟩ <;> first | omega | simp [hco] | (exact_mod_cast hco)

/-- The parts, and what they are in the least terms. -/
theorem qd_parts {a D : Int} (hD : 0 < D) : ∃ g : Int, 0 < g ∧ (qd a D).1 * g = a ∧ (qd a D).2 * g = D := by
  obtain ⟨h1, h2⟩ := red_num (t := a) hD
  obtain ⟨g1, g2⟩ := gcd_bd (x := a) (y := D) (by omega)
  refine ⟨(Int.gcd a D : Int), by omega, ?_, ?_⟩
  · show (Rat.divInt a D).num * _ = a
    rw [h1]; exact Int.tdiv_mul_cancel (Int.gcd_dvd_left ..)
  · show ((Rat.divInt a D).den : Int) * _ = D
    rw [h2]; exact Int.tdiv_mul_cancel (Int.gcd_dvd_right ..)

theorem qd_scale {a D c : Int} (hc : 0 < c) : qd (c * a) (c * D) = qd a D := qd_congr (Rat.divInt_mul_left (by omega))
theorem qd_pos {a D : Int} (hD : 0 < D) : 0 < (qd a D).1 ↔ 0 < a := by
  obtain ⟨g, h0, h1, _⟩ := qd_parts (a := a) hD
  constructor
  · intro h
    have := Int.mul_pos h h0
    rw [h1] at this; exact this
  · intro h
    rcases Int.lt_or_le 0 (qd a D).1 with h2 | h2
    · exact h2
    · have := Int.mul_nonneg (show 0 ≤ -(qd a D).1 by omega) (show (0 : Int) ≤ g by omega)
      rw [Int.neg_mul, h1] at this
      omega
theorem qd_den {a D : Int} (hD : 0 < D) : 0 < (qd a D).2 := by
  obtain ⟨g, h0, _, h2⟩ := qd_parts (a := a) hD
  rcases Int.lt_or_le 0 (qd a D).2 with h | h
  · exact h
  · have := Int.mul_nonneg (show 0 ≤ -(qd a D).2 by omega) (show (0 : Int) ≤ g by omega)
    rw [Int.neg_mul, h2] at this
    omega

theorem add_divInt {a b D : Int} (hD : 0 < D) : Rat.divInt a D + Rat.divInt b D = Rat.divInt (a + b) D := by
  rw [Rat.divInt_add_divInt _ _ (by omega) (by omega)]
  have e : a * D + b * D = D * (a + b) := by rw [← Int.add_mul, Int.mul_comm]
  rw [e]
  exact Rat.divInt_mul_left (by omega)

theorem addF_qd {a b D : Int} (hD : 0 < D) (hD1 : D ≤ 1000000000) (ha : -1000000000 ≤ a ∧ a ≤ 1000000000) (hb : -1000000000 ≤ b ∧ b ≤ 1000000000) (hab : -1000000000 ≤ a + b ∧ a + b ≤ 1000000000) : addF (qd a D) (qd b D) = (qd (a + b) D, true) := by
  have h1 := qd_ok hD hD1 ha
  have h2 := qd_ok hD hD1 hb
  have h3 := qd_ok hD hD1 hab
  have p1 := qd_den (a := a) hD
  have p2 := qd_den (a := b) hD
  unfold addF
  rw [h1, h2]
  simp only [Bool.and_self, if_true]
  rw [mkF_qd (Int.mul_pos p1 p2)]
  have e : qd ((qd a D).1 * (qd b D).2 + (qd b D).1 * (qd a D).2) ((qd a D).2 * (qd b D).2) = qd (a + b) D := by
    refine qd_congr ?_
    rw [← Rat.divInt_add_divInt _ _ (by omega) (by omega)]
    have v1 : Rat.divInt (qd a D).1 (qd a D).2 = Rat.divInt a D := qd_val (a := a) (D := D)
    have v2 : Rat.divInt (qd b D).1 (qd b D).2 = Rat.divInt b D := qd_val (a := b) (D := D)
    rw [v1, v2, add_divInt hD]
  rw [e, if_pos h3]

theorem neg_qd {a D : Int} : (-(qd a D).1, (qd a D).2) = qd (-a) D := by
  unfold qd
  have : Rat.divInt (-a) D = -(Rat.divInt a D) := (Rat.neg_divInt _ _).symm
  rw [this]; rfl
theorem subF_qd {a b D : Int} (hD : 0 < D) (hD1 : D ≤ 1000000000) (ha : -1000000000 ≤ a ∧ a ≤ 1000000000) (hb : -1000000000 ≤ b ∧ b ≤ 1000000000) (hab : -1000000000 ≤ a - b ∧ a - b ≤ 1000000000) : subF (qd a D) (qd b D) = (qd (a - b) D, true) := by
  unfold subF
  rw [neg_qd, addF_qd hD hD1 ha (by omega) (by omega)]
  rfl

theorem cmpF_qd {a b D : Int} (hD : 0 < D) (hD1 : D ≤ 1000000000) (ha : -1000000000 ≤ a ∧ a ≤ 1000000000) (hb : -1000000000 ≤ b ∧ b ≤ 1000000000) : cmpF (qd a D) (qd b D) = cmpI a b := by
  have h1 := qd_ok hD hD1 ha
  have h2 := qd_ok hD hD1 hb
  obtain ⟨g1, p1, e1, f1⟩ := qd_parts (a := a) hD
  obtain ⟨g2, p2, e2, f2⟩ := qd_parts (a := b) hD
  have key : ∀ x y : Int, (x = (qd a D).1 * (qd b D).2) → (y = (qd b D).1 * (qd a D).2) → (x < y ↔ a < b) ∧ (y < x ↔ b < a) := by
    intro x y hx hy
    have k1 : x * (g1 * g2) = a * D := by
      have : a * D = ((qd a D).1 * g1) * ((qd b D).2 * g2) := by rw [e1, f2]
      rw [hx, this]; simp only [Int.mul_assoc, Int.mul_left_comm, Int.mul_comm]
    have k2 : y * (g1 * g2) = b * D := by
      have : b * D = ((qd b D).1 * g2) * ((qd a D).2 * g1) := by rw [e2, f1]
      rw [hy, this]; simp only [Int.mul_assoc, Int.mul_left_comm, Int.mul_comm]
    have hg : 0 < g1 * g2 := Int.mul_pos p1 p2
    constructor
    · rw [← Int.mul_lt_mul_right hg, k1, k2, Int.mul_lt_mul_right hD]
    · rw [← Int.mul_lt_mul_right hg, k1, k2, Int.mul_lt_mul_right hD]
  obtain ⟨k1, k2⟩ := key _ _ rfl rfl
  unfold cmpF cmpI
  rw [h1, h2]
  simp only [Bool.and_self, if_true, k1, k2]

theorem divF_qd {a D k : Int} (hD : 0 < D) (hk : 0 < k) (hDk : D * k ≤ 1000000000) (ha : -1000000000 ≤ a ∧ a ≤ 1000000000) : mkF (qd a D).1 ((qd a D).2 * k) = (qd a (D * k), true) := by
  have p1 := qd_den (a := a) hD
  rw [mkF_qd (Int.mul_pos p1 hk)]
  have h3 := qd_ok (Int.mul_pos hD hk) hDk ha
  have e : qd (qd a D).1 ((qd a D).2 * k) = qd a (D * k) := by
    obtain ⟨g, p2, e1, f1⟩ := qd_parts (a := a) hD
    have h := qd_scale (a := (qd a D).1) (D := (qd a D).2 * k) p2
    rw [← h]
    have e2 : g * (qd a D).1 = a := by rw [Int.mul_comm]; exact e1
    have e3 : g * ((qd a D).2 * k) = D * k := by rw [← Int.mul_assoc, Int.mul_comm g]; rw [f1]
    rw [e2, e3]
  rw [e, if_pos h3]

end Go.Proofs.Ytkfgmpmeipilnaa.Ax

/-
  Contracts: a short list of ints is sorted by a function, stably (slices.SortStableFunc). No condition.
-/
namespace Go.Proofs.Ytkfgmpmeipilnaa.Ax
open Go Go.RowKit
set_option linter.unusedSimpArgs false

theorem Pure.killN {caps : List AV} (hc : Pure caps) (k : Nat) : killNL k caps = caps := killNL_id' k caps (by rw [hc.refs]; simp)

/-- x steps to the left of the first k numbers as long as it is less than the next one there. -/
def insFrom (c : Int → Int → Int) (ys : List Int) (x : Int) : Nat → List Int
  | 0 => x :: ys
  | k + 1 => if c x (ys.getD k 0) < 0 then insFrom c ys x k else ys.take (k + 1) ++ x :: ys.drop (k + 1)
def ins (c : Int → Int → Int) (ys : List Int) (x : Int) : List Int := insFrom c ys x ys.length
def isort (c : Int → Int → Int) (xs : List Int) : List Int := xs.foldl (ins c) []
theorem insFrom_len {c : Int → Int → Int} {ys : List Int} {x : Int} : ∀ {k : Nat}, (insFrom c ys x k).length = ys.length + 1
  | 0 => rfl
  | k + 1 => by
    unfold insFrom
    split
    · exact insFrom_len
    · simp; omega
theorem mem_insFrom {c : Int → Int → Int} {ys : List Int} {x y : Int} : ∀ {k : Nat}, y ∈ insFrom c ys x k ↔ y = x ∨ y ∈ ys
  | 0 => by simp [insFrom]
  | k + 1 => by
    unfold insFrom
    split
    · exact mem_insFrom
    · rw [List.mem_append, List.mem_cons]
      conv => rhs; rw [← List.take_append_drop (k + 1) ys, List.mem_append]
      constructor
      · rintro (h | h | h)
        · exact .inr (.inl h)
        · exact .inl h
        · exact .inr (.inr h)
      · rintro (h | h | h)
        · exact .inr (.inl h)
        · exact .inl h
        · exact .inr (.inr h)
theorem isort_snoc {c : Int → Int → Int} {xs : List Int} {x : Int} : isort c (xs ++ [x]) = ins c (isort c xs) x := by simp [isort, List.foldl_append]
theorem isort_len {c : Int → Int → Int} (xs : List Int) : (isort c xs).length = xs.length := by
  unfold isort
  suffices h : ∀ (xs ys : List Int), (xs.foldl (ins c) ys).length = ys.length + xs.length by simpa using h xs []
  intro xs
  induction xs with
  | nil => intro ys; simp
  | cons x xs ih => intro ys; simp only [List.foldl_cons]; rw [ih]; simp [ins, insFrom_len]; omega
theorem isort_mem {c : Int → Int → Int} {xs : List Int} {y : Int} : y ∈ isort c xs ↔ y ∈ xs := by
  unfold isort
  suffices h : ∀ (xs ys : List Int), y ∈ xs.foldl (ins c) ys ↔ y ∈ ys ∨ y ∈ xs by simpa using h xs []
  intro xs
  induction xs with
  | nil => intro ys; simp
  | cons x xs ih =>
    intro ys
    simp only [List.foldl_cons]
    rw [ih]
    simp only [ins, mem_insFrom, List.mem_cons]
    constructor
    · rintro ((h | h) | h)
      · exact .inr (.inl h)
      · exact .inl h
      · exact .inr (.inr h)
    · rintro (h | h | h)
      · exact .inl (.inr h)
      · exact .inl (.inl h)
      · exact .inr h

/-- x stands behind the first j numbers of what is sorted already. -/
def midd (ys : List Int) (x : Int) (j : Nat) (rest : List Int) : List Int := ys.take j ++ x :: (ys.drop j ++ rest)
theorem midd_len {ys rest : List Int} {x : Int} {j : Nat} : (midd ys x j rest).length = ys.length + 1 + rest.length := by simp [midd]; omega
theorem midd_at {ys rest : List Int} {x : Int} {j : Nat} (h : j ≤ ys.length) : (midd ys x j rest)[j]? = some x := by
  unfold midd
  rw [List.getElem?_append_right (by simp; omega)]
  simp [Nat.min_eq_left h]
theorem midd_before {ys rest : List Int} {x : Int} {k : Nat} (h : k + 1 ≤ ys.length) : (midd ys x (k + 1) rest)[k]? = some (ys.getD k 0) := by
  unfold midd
  rw [List.getElem?_append_left (by simp; omega), List.getElem?_take, if_pos (by omega), List.getElem?_eq_getElem (by omega), List.getD_eq_getElem?_getD, List.getElem?_eq_getElem (by omega)]
  rfl
theorem midd_swap {ys rest : List Int} {x : Int} {k : Nat} (h : k + 1 ≤ ys.length) :
    (((midd ys x (k + 1) rest).map int).set (k + 1) (.v (.int .i64 (ys.getD k 0)))).set k (.v (.int .i64 x)) = (midd ys x k rest).map int := by
  have e1 : AV.v (.int .i64 (ys.getD k 0)) = int (ys.getD k 0) := rfl
  have e2 : AV.v (.int .i64 x) = int x := rfl
  rw [e1, e2, ← List.map_set, ← List.map_set]
  congr 1
  obtain ⟨az, y, bz, rfl, rfl⟩ : ∃ az y bz, ys = az ++ y :: bz ∧ k = az.length := by
    refine ⟨ys.take k, ys[k], ys.drop (k + 1), ?_, by simp; omega⟩
    rw [List.getElem_cons_drop, List.take_append_drop]
  have t1 : az.take (az.length + 1) = az := List.take_of_length_le (by omega)
  have t2 : az.drop (az.length + 1) = [] := List.drop_of_length_le (by omega)
  simp [midd, List.take_append, List.drop_append, t1, t2]
theorem midd_all {ys : List Int} {x : Int} {rest : List Int} : midd ys x ys.length rest = ys ++ x :: rest := by simp [midd]

/-- The list whose first i numbers are sorted. -/
def srtTo (c : Int → Int → Int) (xs : List Int) (i : Nat) : List Int := isort c (xs.take i) ++ xs.drop i
theorem srtTo_len {c : Int → Int → Int} {xs : List Int} {i : Nat} : (srtTo c xs i).length = xs.length := by
  unfold srtTo
  rw [List.length_append, isort_len, ← List.length_append, List.take_append_drop]
theorem srtTo_one {c : Int → Int → Int} {xs : List Int} : srtTo c xs 1 = xs := by
  cases xs with
  | nil => rfl
  | cons x xs => simp [srtTo, isort, ins, insFrom]
theorem srtTo_all {c : Int → Int → Int} {xs : List Int} {i : Nat} (h : xs.length ≤ i) : srtTo c xs i = isort c xs := by
  simp [srtTo, List.take_of_length_le h, List.drop_of_length_le h]
theorem srtTo_mid {c : Int → Int → Int} {xs : List Int} {i : Nat} (h : i < xs.length) : srtTo c xs i = midd (isort c (xs.take i)) xs[i] (isort c (xs.take i)).length (xs.drop (i + 1)) := by
  rw [midd_all, srtTo, List.getElem_cons_drop]
theorem srtTo_done {c : Int → Int → Int} {xs : List Int} {i j : Nat} (h : i < xs.length) (hi : insFrom c (isort c (xs.take i)) xs[i] j = ins c (isort c (xs.take i)) xs[i])
    (hj : j = 0 ∨ ∃ k, j = k + 1 ∧ ¬ c xs[i] ((isort c (xs.take i)).getD k 0) < 0) : midd (isort c (xs.take i)) xs[i] j (xs.drop (i + 1)) = srtTo c xs (i + 1) := by
  unfold srtTo
  rw [List.take_succ_eq_append_getElem h, isort_snoc, ← hi]
  rcases hj with rfl | ⟨k, rfl, hk⟩
  · simp [midd, insFrom]
  · rw [insFrom, if_neg hk]
    simp [midd]

set_option maxHeartbeats 2000000 in
theorem insertion_ok {g : FuncId} {caps : List AV} (hc : Pure caps) (c : Int → Int → Int) (nl : Bool) (xs : List Int) (hn : xs.length ≤ 1000)
    (hg : ∀ x ∈ xs, ∀ y ∈ xs, CallOk Try.prog g (.v (.int .i64 x) :: .v (.int .i64 y) :: caps) (.v (.int .i64 (c x y)))) :
    MutOk Try.prog 157 [ints nl xs, int 0, int xs.length, .fn g caps] 0 (.tup []) (ints nl (isort c xs)) := by
  have hG : FnsOk Try.prog [(g, mk (fun p : Int × Int => p.1 ∈ xs ∧ p.2 ∈ xs) (fun p : Int × Int => .v (.int .i64 p.1) :: .v (.int .i64 p.2) :: caps) (fun p => .v (.int .i64 (c p.1 p.2))))] := .cons (mk_ok fun p hp => hg p.1 hp.1 p.2 hp.2) .nil
  have hat : ∀ x y, x ∈ xs → y ∈ xs → mk (fun p : Int × Int => p.1 ∈ xs ∧ p.2 ∈ xs) (fun p : Int × Int => (.v (.int .i64 p.1) : AV) :: .v (.int .i64 p.2) :: caps) (fun p => AV.v (.int .i64 (c p.1 p.2))) (.v (.int .i64 x) :: .v (.int .i64 y) :: caps) = some (.v (.int .i64 (c x y))) := fun x y hx hy =>
    mk_eq (enc := fun p : Int × Int => (.v (.int .i64 p.1) : AV) :: .v (.int .i64 p.2) :: caps) (x := (x, y)) (by rintro ⟨a, b⟩ ⟨d, e⟩ h; simp at h; simp [h]) ⟨hx, hy⟩
  generalize mk (fun p : Int × Int => p.1 ∈ xs ∧ p.2 ∈ xs) (fun p : Int × Int => (.v (.int .i64 p.1) : AV) :: .v (.int .i64 p.2) :: caps) (fun p => AV.v (.int .i64 (c p.1 p.2))) = m at hG hat
  refine mutOk_awp (ctx_ok eqOk hG) mixed (live := [true, true, true, true, false, false, false, false, true, true, false, false, false, false, true, false, false, false, false, false, false, false, false, false, false, false, false, false, false, false, false, false, false, false, true]) (dt := [(4, ⟨[], [], []⟩), (6, ⟨[(4, 15)], [], []⟩)]) (pos := 0) rfl Try.func157 rfl (by kernel_rfl) (by kernel_rfl) fun US Uv w0 hlens => ?_
  have w1 : IntKind.i64.wrap 1 = 1 := by decide
  have hs1 := srtTo_one (c := c) (xs := xs)
  simp [Try.f157, List.range, List.range.loop, ints, intss, int, bool, row, frac, fracs, ← List.map_take, ← List.map_drop, hc.res, hc.refs, hc.ren, hc.killN]
  refine awp_range (live := [true, true, true, true, false, false, false, false, true, true, false, false, false, false, true, false, false, false, false, false, false, false, false, false, false, false, false, false, false, false, false, false, false, false, true]) (ctx_ok eqOk hG) mixed [true, true, true, true, false, false, false, false, true] (xs.length - 1) (fun k => True) (fun k => ⟨[.ref 0 [] 0 xs.length, int 0, int xs.length, .fn g caps, .junk, .junk, .junk, .junk, int ((k : Int) + 1), .junk, .junk, .junk, .junk, .junk, .junk, .junk, .junk, .junk, .junk, .junk, .junk, .junk, .junk, .junk, .junk, .junk, .junk, .junk, .junk, .junk, .junk, .junk, .junk, .junk, .junk, .junk, .junk, .junk, .junk, .junk, .junk, .junk, .junk, .junk, .junk, .junk, .junk, .junk, .junk, .junk, .junk, .junk, .junk], [⟨true, .sl nl 1 ((srtTo c xs (k + 1)).map int)⟩]⟩) ?_ (by simp [sub, slotsLe, clean, keep, refsL, refs, once, place, renL, ren, List.replicate, int, bool, hs1, w1, hc.refs, hc.ren, hc.killN]) ?_ ?_ ?_
  · omega
  · trivial
  · intro k hk _ hwk
    have hk1 : k + 1 < xs.length := by omega
    have hlt : ((k : Int) + 1 < (xs.length : Int)) := by omega
    have hw2 : IntKind.i64.wrap ((k : Int) + 1 + 1) = (k : Int) + 1 + 1 := wrapI (by omega) (by omega)
    have hmid := srtTo_mid (c := c) hk1
    have hyl : (isort c (xs.take (k + 1))).length = k + 1 := by rw [isort_len]; simp; omega
    have hys : ∀ y ∈ isort c (xs.take (k + 1)), y ∈ xs := fun y hy => List.mem_of_mem_take (isort_mem.1 hy)
    have hdone := fun j => srtTo_done (c := c) (j := j) hk1
    have hx : xs[k + 1] ∈ xs := List.getElem_mem hk1
    rw [hmid, hyl]
    generalize isort c (xs.take (k + 1)) = ys at hyl hys hdone
    generalize xs[k + 1] = x at hx hdone
    simp (config := {contextual := true}) [List.range, List.range.loop, ints, intss, int, bool, row, frac, fracs, ← List.map_take, ← List.map_drop, hc.res, hc.refs, hc.ren, hc.killN, hlt]
    refine awp_loop_of (live := [true, true, true, true, false, false, false, false, true, true, false, false, false, false, true, false, false, false, false, false, false, false, false, false, false, false, false, false, false, false, false, false, false, false, true]) (ctx_ok eqOk hG) mixed [true, true, true, true, false, false, false, false, true, true] (α := {j : Nat // j ≤ k + 1 ∧ insFrom c ys x j = ins c ys x}) (fun j => ⟨[.ref 0 [] 0 xs.length, int 0, int xs.length, .fn g caps, .junk, .junk, .junk, .junk, int ((k : Int) + 1), int (j.1 : Int), .junk, .junk, .junk, .junk, .junk, .junk, .junk, .junk, .junk, .junk, .junk, .junk, .junk, .junk, .junk, .junk, .junk, .junk, .junk, .junk, .junk, .junk, .junk, .junk, .junk, .junk, .junk, .junk, .junk, .junk, .junk, .junk, .junk, .junk, .junk, .junk, .junk, .junk, .junk, .junk, .junk, .junk, .junk], [⟨true, .sl nl 1 ((midd ys x j.1 (xs.drop (k + 1 + 1))).map int)⟩]⟩) (fun j => j.1) ⟨k + 1, Nat.le_refl _, by rw [ins, hyl]⟩ (by simp [sub, slotsLe, clean, keep, refsL, refs, once, place, renL, ren, List.replicate, int, bool, hc.refs, hc.ren, hc.killN]) ?_
    rintro ⟨j, hj, hji⟩
    have hml := midd_len (ys := ys) (x := x) (j := j) (rest := xs.drop (k + 1 + 1))
    have hml2 : (midd ys x j (xs.drop (k + 1 + 1))).length = xs.length := by rw [hml, hyl]; simp; omega
    cases j with
    | zero =>
      have hd := hdone 0 hji (.inl rfl)
      simp (config := {contextual := true}) [List.range, List.range.loop, ints, intss, int, bool, row, frac, fracs, ← List.map_take, ← List.map_drop, hc.res, hc.refs, hc.ren, hc.killN, hd, hw2, hml2, List.eraseIdx]
      done
    | succ j =>
      have hjl : j + 1 < xs.length := by omega
      have hjl2 : j < xs.length := by omega
      have hgt : (0 < (j : Int) + 1) := by omega
      have hwj : IntKind.i64.wrap (j : Int) = j := wrapI (by omega) (by omega)
      obtain ⟨_, a1⟩ := List.getElem?_eq_some_iff.1 (midd_at (ys := ys) (x := x) (j := j + 1) (rest := xs.drop (k + 1 + 1)) (by omega))
      obtain ⟨_, a2⟩ := List.getElem?_eq_some_iff.1 (midd_before (ys := ys) (x := x) (k := j) (rest := xs.drop (k + 1 + 1)) (by omega))
      have a3 := midd_swap (ys := ys) (x := x) (k := j) (rest := xs.drop (k + 1 + 1)) (by omega)
      have hyj : ys.getD j 0 ∈ xs := hys _ (by rw [List.getD_eq_getElem?_getD, List.getElem?_eq_getElem (by omega)]; exact List.getElem_mem _)
      have hc1 := hat x (ys.getD j 0) hx hyj
      have hd := fun h => hdone (j + 1) hji (.inr ⟨j, rfl, h⟩)
      have hml3 : (midd ys x j (xs.drop (k + 1 + 1))).length = xs.length := by rw [midd_len, hyl]; simp; omega
      rw [insFrom] at hji
      generalize ys.getD j 0 = y at *
      by_cases hcc : c x y < 0
      · rw [if_pos hcc] at hji
        simp (config := {contextual := true}) [List.range, List.range.loop, ints, intss, int, bool, row, frac, fracs, ← List.map_take, ← List.map_drop, hc.res, hc.refs, hc.ren, hc.killN, hml2, hml3, hjl, hjl2, hgt, hwj, a1, a2, a3, hc1, hcc, List.eraseIdx]
        exact ⟨⟨j, by omega, hji⟩, by simp [sub, slotsLe, clean, keep, refsL, refs, once, place, renL, ren, List.replicate, int, bool, hc.refs, hc.ren, hc.killN], by simp⟩
      · have hd := hd hcc
        simp (config := {contextual := true}) [List.range, List.range.loop, ints, intss, int, bool, row, frac, fracs, ← List.map_take, ← List.map_drop, hc.res, hc.refs, hc.ren, hc.killN, hml2, hml3, hjl, hjl2, hgt, hwj, a1, a2, hc1, hcc, hw2, List.eraseIdx]
        rw [hd]
  · intro _
    have hlt : ¬ (((xs.length - 1 : Nat) : Int) + 1 < (xs.length : Int)) := by omega
    have ha := srtTo_all (c := c) (xs := xs) (i := xs.length - 1 + 1) (by omega)
    have hil := isort_len (c := c) xs
    simp (config := {contextual := true}) [List.range, List.range.loop, ints, intss, int, bool, row, frac, fracs, ← List.map_take, ← List.map_drop, hc.res, hc.refs, hc.ren, hc.killN, hlt, ha, hil, List.eraseIdx]
    done

set_option maxHeartbeats 2000000 in
theorem stable_ok {g : FuncId} {caps : List AV} (hc : Pure caps) (c : Int → Int → Int) (nl : Bool) (xs : List Int) (hn : xs.length < 20)
    (hg : ∀ x ∈ xs, ∀ y ∈ xs, CallOk Try.prog g (.v (.int .i64 x) :: .v (.int .i64 y) :: caps) (.v (.int .i64 (c x y)))) :
    MutOk Try.prog 148 [ints nl xs, int xs.length, .fn g caps] 0 (.tup []) (ints nl (isort c xs)) := by
  have hi : FnMut Try.prog 157 (mkM (fun _ : Unit => True) (fun _ => [ints nl xs, int 0, int xs.length, .fn g caps]) (fun _ => (0, .tup [], ints nl (isort c xs)))) := mkM_ok fun _ _ => insertion_ok hc c nl xs (by omega) hg
  have hat : mkM (fun _ : Unit => True) (fun _ => [ints nl xs, int 0, int xs.length, .fn g caps]) (fun _ => (0, .tup [], ints nl (isort c xs))) [.sl nl 1 (xs.map int), .v (.int .i64 0), .v (.int .i64 xs.length), .fn g caps] = some (0, .tup [], .sl nl 1 ((isort c xs).map int)) := mkM_eq (enc := fun _ : Unit => [ints nl xs, int 0, int xs.length, .fn g caps]) (x := ()) (fun _ _ _ => rfl) trivial
  generalize mkM (fun _ : Unit => True) (fun _ => [ints nl xs, int 0, int xs.length, .fn g caps]) (fun _ => (0, AV.tup [], ints nl (isort c xs))) = m at hi hat
  have hG : FnsOk Try.prog [] := .nil
  have hM : FnsMut Try.prog [(157, m)] := .cons hi .nil
  have hl := isort_len (c := c) xs
  have h20 : ¬ (20 : Int) ≤ xs.length := by omega
  have h20' : ¬ (20 : Int) < xs.length := by omega
  refine mutOk_awp (ctxM_ok eqOk hG hM) mixed (live := [true, true, true, false, false, false, true, true, true, true, false, false, false, true, false, false, false, false, false, false, false, false, false, false, false, false, false, false, false, false, true, false, false, false, false, true, false, false, false, false, false, false, false, false, false, false, false, false, false, false, false, false, false, false, true]) (dt := []) (pos := 0) rfl Try.func148 rfl (by kernel_rfl) (by kernel_rfl) fun US Uv w0 hlens => ?_
  simp [Try.f148, List.range, List.range.loop, ints, intss, int, bool, row, frac, fracs, ← List.map_take, ← List.map_drop, hc.res, hc.refs, hc.ren, hc.killN]
  refine awp_loop_of (live := [true, true, true, false, false, false, true, true, true, true, false, false, false, true, false, false, false, false, false, false, false, false, false, false, false, false, false, false, false, false, true, false, false, false, false, true, false, false, false, false, false, false, false, false, false, false, false, false, false, false, false, false, false, false, true]) (ctxM_ok eqOk hG hM) mixed [true, true, true, false, false, false, true, true, true] (α := Unit) (fun u => ⟨[.ref 0 [] 0 xs.length, int xs.length, .fn g caps, .junk, .junk, .junk, int 20, int 0, int 20, .junk, .junk, .junk, .junk, .junk, .junk, .junk, .junk, .junk, .junk, .junk, .junk, .junk, .junk, .junk, .junk, .junk, .junk, .junk, .junk, .junk, .junk, .junk, .junk, .junk, .junk, .junk, .junk, .junk, .junk, .junk, .junk, .junk, .junk, .junk, .junk, .junk, .junk, .junk, .junk, .junk, .junk, .junk, .junk, .junk, .junk, .junk, .junk, .junk, .junk, .junk, .junk, .junk, .junk], [⟨true, .sl nl 1 (xs.map int)⟩]⟩) (fun u => 0) () (by simp [sub, slotsLe, clean, keep, refsL, refs, once, place, renL, ren, List.replicate, int, bool, hc.refs, hc.ren, hc.killN]) ?_
  rintro ⟨⟩
  simp [List.range, List.range.loop, ints, intss, int, bool, row, frac, fracs, ← List.map_take, ← List.map_drop, List.eraseIdx, hc.res, hc.refs, hc.ren, hc.killN, h20, hat, hl]
  refine awp_loop_of (live := [true, true, true, false, false, false, true, true, true, true, false, false, false, true, false, false, false, false, false, false, false, false, false, false, false, false, false, false, false, false, true, false, false, false, false, true, false, false, false, false, false, false, false, false, false, false, false, false, false, false, false, false, false, false, true]) (ctxM_ok eqOk hG hM) mixed [true, true, true, false, false, false, true] (α := Unit) (fun u => ⟨[.ref 0 [] 0 xs.length, int xs.length, .fn g caps, .junk, .junk, .junk, int 20, .junk, .junk, .junk, .junk, .junk, .junk, .junk, .junk, .junk, .junk, .junk, .junk, .junk, .junk, .junk, .junk, .junk, .junk, .junk, .junk, .junk, .junk, .junk, .junk, .junk, .junk, .junk, .junk, .junk, .junk, .junk, .junk, .junk, .junk, .junk, .junk, .junk, .junk, .junk, .junk, .junk, .junk, .junk, .junk, .junk, .junk, .junk, .junk, .junk, .junk, .junk, .junk, .junk, .junk, .junk, .junk], [⟨true, .sl nl 1 ((isort c xs).map int)⟩]⟩) (fun u => 0) () (by simp [sub, slotsLe, clean, keep, refsL, refs, once, place, renL, ren, List.replicate, int, bool, hc.refs, hc.ren, hc.killN]) ?_
  rintro ⟨⟩
  simp [List.range, List.range.loop, ints, intss, int, bool, row, frac, fracs, ← List.map_take, ← List.map_drop, List.eraseIdx, hc.res, hc.refs, hc.ren, hc.killN, h20', hl]

/-- slices.SortStableFunc of fewer than twenty ints. -/
theorem sort_ok {g : FuncId} {caps : List AV} (hc : Pure caps) (c : Int → Int → Int) (nl : Bool) (xs : List Int) (hn : xs.length < 20)
    (hg : ∀ x ∈ xs, ∀ y ∈ xs, CallOk Try.prog g (.v (.int .i64 x) :: .v (.int .i64 y) :: caps) (.v (.int .i64 (c x y)))) :
    MutOk Try.prog 126 [ints nl xs, .fn g caps] 0 (.tup []) (ints nl (isort c xs)) := by
  have hi : FnMut Try.prog 148 (mkM (fun _ : Unit => True) (fun _ => [ints nl xs, int xs.length, .fn g caps]) (fun _ => (0, .tup [], ints nl (isort c xs)))) := mkM_ok fun _ _ => stable_ok hc c nl xs hn hg
  have hat : mkM (fun _ : Unit => True) (fun _ => [ints nl xs, int xs.length, .fn g caps]) (fun _ => (0, .tup [], ints nl (isort c xs))) [.sl nl 1 (xs.map int), .v (.int .i64 xs.length), .fn g caps] = some (0, .tup [], .sl nl 1 ((isort c xs).map int)) := mkM_eq (enc := fun _ : Unit => [ints nl xs, int xs.length, .fn g caps]) (x := ()) (fun _ _ _ => rfl) trivial
  generalize mkM (fun _ : Unit => True) (fun _ => [ints nl xs, int xs.length, .fn g caps]) (fun _ => (0, AV.tup [], ints nl (isort c xs))) = m at hi hat
  have hG : FnsOk Try.prog [] := .nil
  have hM : FnsMut Try.prog [(148, m)] := .cons hi .nil
  have hl := isort_len (c := c) xs
  refine mutOk_awp (ctxM_ok eqOk hG hM) mixed (live := [true, true]) (dt := []) (pos := 0) rfl Try.func126 rfl (by kernel_rfl) (by kernel_rfl) fun US Uv w0 hlens => ?_
  simp [Try.f126, List.range, List.range.loop, ints, intss, int, bool, row, frac, fracs, ← List.map_take, ← List.map_drop, List.eraseIdx, hc.res, hc.refs, hc.ren, hc.killN, hat, hl]

end Go.Proofs.Ytkfgmpmeipilnaa.Ax

/-
  The plain law of TransferOrder: an insertion from the right and one from the left put a number at the same place. No condition.
-/
namespace Go.Proofs.Ytkfgmpmeipilnaa.Ax
open Go Go.RowKit
set_option linter.unusedSimpArgs false

section
variable {c : Int → Int → Int} {le : Int → Int → Prop} {D : Int → Prop}

/-- Where x is put in, by the numbers that may stand ahead of it. -/
theorem ins_split (hc : ∀ x y, D x → D y → (c x y < 0 ↔ ¬ le y x)) (htr : ∀ x y z, D x → D y → D z → le x y → le y z → le x z) {ys : List Int} {x : Int} {k : Nat} (hD : ∀ y ∈ ys, D y) (hx : D x) (hs : ys.Pairwise le) (hk : k ≤ ys.length)
    (h1 : ∀ i (h : i < ys.length), i < k → le ys[i] x) (h2 : k = ys.length ∨ ∃ h : k < ys.length, ¬ le ys[k] x) : ins c ys x = ys.take k ++ x :: ys.drop k := by
  have key : ∀ m, k ≤ m → m ≤ ys.length → insFrom c ys x m = ys.take k ++ x :: ys.drop k := by
    intro m
    induction m with
    | zero => intro hkm _; obtain rfl : k = 0 := by omega
              simp [insFrom]
    | succ m ih =>
      intro hkm hml
      have hml' : m < ys.length := by omega
      have hg : ys.getD m 0 = ys[m] := by simp [List.getD_eq_getElem?_getD, hml']
      have hDm : D ys[m] := hD _ (List.getElem_mem _)
      by_cases e : k = m + 1
      · subst e
        have hle := h1 m hml' (by omega)
        rw [insFrom, hg, if_neg (fun h => ((hc x ys[m] hx hDm).1 h) hle)]
      · rw [insFrom, hg, if_pos, ih (by omega) (by omega)]
        refine (hc x ys[m] hx hDm).2 fun hle => ?_
        rcases h2 with h2 | ⟨hkl, h2⟩
        · omega
        · by_cases e2 : k = m
          · subst e2; exact h2 hle
          · exact h2 (htr _ _ _ (hD _ (List.getElem_mem _)) hDm hx (List.pairwise_iff_getElem.1 hs k m hkl hml' (by omega)) hle)
  exact key ys.length hk (Nat.le_refl _)

theorem split_at (le : Int → Int → Prop) (x : Int) : ∀ ys : List Int, ∃ k, k ≤ ys.length ∧ (∀ i (h : i < ys.length), i < k → le ys[i] x) ∧ (k = ys.length ∨ ∃ h : k < ys.length, ¬ le ys[k] x)
  | [] => ⟨0, by simp, fun i h => by simp at h, .inl rfl⟩
  | y :: ys => by
    by_cases hy : le y x
    · obtain ⟨k, h1, h2, h3⟩ := split_at le x ys
      refine ⟨k + 1, by simpa using h1, fun i h hi => ?_, ?_⟩
      · cases i with
        | zero => exact hy
        | succ i => exact h2 i (by simpa using h) (by omega)
      · rcases h3 with h3 | ⟨h3, h4⟩
        · left; simp [h3]
        · right; exact ⟨by simpa using h3, h4⟩
    · exact ⟨0, by simp, fun i _ hi => by omega, .inr ⟨by simp, hy⟩⟩

theorem ins_sorted (hc : ∀ x y, D x → D y → (c x y < 0 ↔ ¬ le y x)) (htr : ∀ x y z, D x → D y → D z → le x y → le y z → le x z) (hto : ∀ x y, D x → D y → ¬ le y x → le x y) {ys : List Int} {x : Int} (hD : ∀ y ∈ ys, D y) (hx : D x) (hs : ys.Pairwise le) : (ins c ys x).Pairwise le := by
  obtain ⟨k, h1, h2, h3⟩ := split_at le x ys
  rw [ins_split hc htr hD hx hs h1 h2 h3]
  have hkey : ∀ j (h : j < ys.length), k ≤ j → le x ys[j] := fun j hj hkj => by
    rcases h3 with h3 | ⟨hkl, h3⟩
    · omega
    · have hxk := hto _ _ hx (hD _ (List.getElem_mem hkl)) h3
      by_cases e : k = j
      · subst e; exact hxk
      · exact htr _ _ _ hx (hD _ (List.getElem_mem hkl)) (hD _ (List.getElem_mem hj)) hxk (List.pairwise_iff_getElem.1 hs k j hkl hj (by omega))
  rw [List.pairwise_append, List.pairwise_cons]
  refine ⟨hs.take, ⟨fun y hy => ?_, hs.drop⟩, fun a ha b hb => ?_⟩
  · obtain ⟨i, hi, rfl⟩ := List.getElem_of_mem hy
    rw [List.getElem_drop]
    exact hkey _ _ (by omega)
  · obtain ⟨i, hi, rfl⟩ := List.getElem_of_mem ha
    rw [List.getElem_take]
    have hik : i < k := by simp at hi; omega
    have hil : i < ys.length := by omega
    rcases List.mem_cons.1 hb with rfl | hb
    · exact h2 i hil hik
    · obtain ⟨j, hj, rfl⟩ := List.getElem_of_mem hb
      rw [List.getElem_drop]
      exact List.pairwise_iff_getElem.1 hs i (k + j) hil (by simp at hj; omega) (by omega)

theorem isort_sorted (hc : ∀ x y, D x → D y → (c x y < 0 ↔ ¬ le y x)) (htr : ∀ x y z, D x → D y → D z → le x y → le y z → le x z) (hto : ∀ x y, D x → D y → ¬ le y x → le x y) (xs : List Int) (hD : ∀ y ∈ xs, D y) : (isort c xs).Pairwise le := by
  unfold isort
  suffices h : ∀ (xs ys : List Int), (∀ y ∈ xs, D y) → (∀ y ∈ ys, D y) → ys.Pairwise le → (xs.foldl (ins c) ys).Pairwise le from h xs [] hD (by simp) .nil
  intro xs
  induction xs with
  | nil => intro ys _ _ h; exact h
  | cons x xs ih =>
    intro ys h1 h2 h3
    refine ih _ (fun y hy => h1 y (by simp [hy])) (fun y hy => ?_) (ins_sorted hc htr hto h2 (h1 x (by simp)) h3)
    rcases mem_insFrom.1 hy with rfl | hy
    · exact h1 _ (by simp)
    · exact h2 y hy
end

/-- Quotients compared; one by 0 is greater than all others. -/
def cmpR (a b c d : Int) : Int := if b = 0 ∨ d = 0 then IntKind.i64.wrap (cmpI d 0 - cmpI b 0) else cmpI (a * d) (c * b)
def ratC (u v : List Int) (x y : Int) : Int := cmpR (at0 u x.toNat) (at0 v x.toNat) (at0 u y.toNat) (at0 v y.toNat)
def leR (u v : List Int) (x y : Int) : Prop := at0 u x.toNat * at0 v y.toNat ≤ at0 u y.toNat * at0 v x.toNat
instance {u v : List Int} {x y : Int} : Decidable (leR u v x y) := by unfold leR; infer_instance
/-- Of the things of which one heir has a point at least. -/
def domR (u v : List Int) (x : Int) : Prop := 0 ≤ at0 u x.toNat ∧ 0 ≤ at0 v x.toNat ∧ 0 < at0 u x.toNat + at0 v x.toNat

theorem cmpI_neg {x y : Int} : cmpI x y < 0 ↔ x < y := by unfold cmpI; split <;> (try split) <;> omega
theorem ratC_neg {u v : List Int} {x y : Int} (hx : domR u v x) (hy : domR u v y) : ratC u v x y < 0 ↔ ¬ leR u v y x := by
  unfold ratC leR cmpR
  obtain ⟨a0, a1, a2⟩ := hx
  obtain ⟨b0, b1, b2⟩ := hy
  generalize at0 u x.toNat = a at *
  generalize at0 v x.toNat = b at *
  generalize at0 u y.toNat = c at *
  generalize at0 v y.toNat = d at *
  split
  · rename_i h
    have w1 : IntKind.i64.wrap (cmpI d 0 - cmpI b 0) = cmpI d 0 - cmpI b 0 := by
      unfold cmpI
      split <;> (try split) <;> (try split) <;> (try split) <;> exact wrapI (by omega) (by omega)
    rw [w1]
    by_cases hb : b = 0
    · subst hb
      by_cases hd : d = 0
      · subst hd; simp [cmpI]
      · have : 0 < d := by omega
        have h1 : ¬ d < 0 := by omega
        have hm : 0 ≤ a * d := Int.mul_nonneg a0 b1
        simp [cmpI, h1, this, hm]
    · obtain rfl : d = 0 := h.resolve_left hb
      have hb' : 0 < b := by omega
      have h1 : ¬ b < 0 := by omega
      have hc : 0 < c := by omega
      have := Int.mul_pos hc hb'
      simp [cmpI, h1, hb']
      omega
  · rw [cmpI_neg]; omega
theorem leR_trans {u v : List Int} {x y z : Int} (hx : domR u v x) (hy : domR u v y) (hz : domR u v z) (h1 : leR u v x y) (h2 : leR u v y z) : leR u v x z := by
  unfold leR at *
  obtain ⟨a0, a1, a2⟩ := hx
  obtain ⟨b0, b1, b2⟩ := hy
  obtain ⟨c0, c1, c2⟩ := hz
  generalize at0 u x.toNat = a at *
  generalize at0 v x.toNat = b at *
  generalize at0 u y.toNat = c at *
  generalize at0 v y.toNat = d at *
  generalize at0 u z.toNat = e at *
  generalize at0 v z.toNat = f at *
  by_cases hd : d = 0
  · subst hd
    have hc : 0 < c := by omega
    have hf : f = 0 := by
      have : c * f ≤ 0 := by simpa using h2
      rcases Int.lt_or_le 0 f with h | h
      · have := Int.mul_pos hc h; omega
      · omega
    subst hf
    have := Int.mul_nonneg c0 a1
    simpa using this
  · have hd' : 0 < d := by omega
    have k1 : a * d * f ≤ c * b * f := Int.mul_le_mul_of_nonneg_right h1 c1
    have k2 : c * f * b ≤ e * d * b := Int.mul_le_mul_of_nonneg_right h2 a1
    have k3 : (a * f) * d ≤ (e * b) * d := by
      have e1 : a * f * d = a * d * f := by rw [Int.mul_right_comm]
      have e2 : c * b * f = c * f * b := by rw [Int.mul_right_comm]
      have e3 : e * d * b = e * b * d := by rw [Int.mul_right_comm]
      omega
    exact Int.le_of_mul_le_mul_right k3 hd'
theorem leR_total {u v : List Int} {x y : Int} (h : ¬ leR u v y x) : leR u v x y := by unfold leR at *; omega

/-- The things that are chosen, up to k. -/
def selTo (p : Nat → Bool) (k : Nat) : List Int := ((List.range k).filter p).map fun (i : Nat) => (i : Int)
theorem selTo_zero {p : Nat → Bool} : selTo p 0 = [] := rfl
theorem selTo_yes {p : Nat → Bool} {k : Nat} (h : p k = true) : selTo p (k + 1) = selTo p k ++ [(k : Int)] := by simp [selTo, List.range_succ, List.filter_append, h]
theorem selTo_no {p : Nat → Bool} {k : Nat} (h : p k = false) : selTo p (k + 1) = selTo p k := by simp [selTo, List.range_succ, List.filter_append, h]
theorem selTo_len {p : Nat → Bool} {k : Nat} : (selTo p k).length ≤ k := by
  unfold selTo
  rw [List.length_map]
  exact Nat.le_trans (List.length_filter_le _ _) (by simp)
theorem selTo_mem {p : Nat → Bool} {k : Nat} {x : Int} (h : x ∈ selTo p k) : ∃ i : Nat, x = i ∧ i < k ∧ p i = true := by
  simp only [selTo, List.mem_map, List.mem_filter, List.mem_range] at h
  obtain ⟨i, ⟨h1, h2⟩, rfl⟩ := h
  exact ⟨i, rfl, h1, h2⟩

/-- Whether heir 'from' has thing k first, and one of the two has a point for it. -/
def selB (r0 r1 : List Int) (fr : Int) (k : Nat) : Bool := decide ((if at0 r1 k ≤ at0 r0 k then (1 : Int) else 0) = 1 - fr) && decide (0 < at0 r0 k + at0 r1 k)
def tOrd (xss : List (Bool × List Int)) (fr : Int) : List Int := match xss with
  | [r0, r1] => if pointsB xss = true ∧ 0 ≤ fr ∧ fr ≤ 1 then isort (if fr = 0 then ratC r0.2 r1.2 else ratC r1.2 r0.2) (selTo (selB r0.2 r1.2 fr) r0.2.length) else []
  | _ => []
theorem tOrd_no {xss : List (Bool × List Int)} {fr : Int} (h : ¬ (pointsB xss = true ∧ 0 ≤ fr ∧ fr ≤ 1)) : tOrd xss fr = [] := by
  unfold tOrd; split
  · rw [if_neg h]
  · rfl
theorem tOrd_len {xss : List (Bool × List Int)} {fr : Int} : (tOrd xss fr).length ≤ 6 := by
  unfold tOrd
  split
  · rename_i r0 r1
    split
    · rename_i h
      have h1 := rect_len (points_facts h.1).2
      have h2 := selTo_len (p := selB r0.2 r1.2 fr) (k := r0.2.length)
      rw [isort_len]
      simp only [wid, List.headD_cons] at h1
      omega
    · simp
  · simp

end Go.Proofs.Ytkfgmpmeipilnaa.Ax

/-
  Contracts: slices.Delete over ints: the row is handed over, what is left comes back. No condition.
-/
namespace Go.Proofs
end Go.Proofs
namespace Go.Proofs.Ytkfgmpmeipilnaa.Ax
open Go Go.RowKit Go.Sort
set_option linter.unusedSimpArgs false

theorem frozen_cells {w : World} {b : Nat} {cs : Array Value} {T : TypeId} (h : w.heap[b]? = some (.cells cs T (0, 0))) (o : Nat) : w.frozen? ⟨b, o, none⟩ = false := by
  simp [World.frozen?, h]

theorem ownRow_ints {w : World} {d : Bool} {F S : Nat → Prop} {b : Nat} : ∀ {xs : List Int} {o : Nat}, OwnRow w d F S b 1 o (xs.map int) → ∀ (j : Nat) (x : Int), xs[j]? = some x → w.cell? ⟨b, o + j, none⟩ = some (.int .i64 x)
  | xs, o, h, j, x, hj => by
    obtain ⟨y, h1, h2, _, h4⟩ := OwnRow.get h j (int x) (by rw [List.getElem?_map, hj]; rfl)
    simp only [Own, int] at h1
    obtain ⟨rfl, _⟩ := h1
    have := h4 0 (.int .i64 x) (by rfl)
    simpa using this

theorem ownRow_mk {w : World} {d : Bool} {F S : Nat → Prop} {b : Nat} : ∀ {xs : List Int} {o : Nat}, (∀ (j : Nat) (x : Int), xs[j]? = some x → w.cell? ⟨b, o + j, none⟩ = some (.int .i64 x)) → OwnRow w d F S b 1 o (xs.map int)
  | [], o, h => by simp [OwnRow]
  | x :: xs, o, h => by
    simp only [List.map_cons, OwnRow]
    refine ⟨.int .i64 x, fun _ => False, fun _ => False, fun _ h => h.elim, fun _ h => h.elim, fun _ h => h.elim, by simp [Own, int, Value.oneCell'], rfl, rfl, fun j y hj => ?_, ownRow_mk fun j y hj => ?_⟩
    · cases j with
      | zero => simp [Value.cells] at hj; subst hj; exact h 0 x rfl
      | succ j => simp [Value.cells] at hj
    · have := h (j + 1) y (by simpa using hj)
      rw [show o + (j + 1) = o + 1 + j by omega] at this; exact this

/-- A row of ints of the call's own, as the shelf speaks of it. -/
theorem holds_of {w : World} {F S : Nat → Prop} {b o : Nat} {cs : Array Value} {T : TypeId} {xs : List Int} (hh : w.heap[b]? = some (.cells cs T (0, 0))) (hrow : OwnRow w true F S b 1 o (xs.map int)) : Holds (Value.int .i64) w b o xs.toArray := fun j hj => by
  have hj' : j < xs.length := by simpa using hj
  refine ⟨?_, frozen_cells hh _⟩
  rw [ownRow_ints hrow j xs[j] (List.getElem?_eq_getElem hj')]
  rw [getElem!_pos _ j hj]
  simp

theorem putRow_heap {w : World} {q b o : Nat} {d : Array Int} {k : Nat} (h : k ≠ b) : (putRow (Value.int .i64) (Sort.ahead w q) b o d).heap[k]? = w.heap[k]? := by
  simp only [putRow, mapBlock, Sort.ahead, Array.getElem?_modify]
  rw [if_neg (fun e => h e.symm)]
theorem putRow_own {w : World} {q b o : Nat} {d : Array Int} {cs : Array Value} {T : TypeId} (h : w.heap[b]? = some (.cells cs T (0, 0))) : (putRow (Value.int .i64) (Sort.ahead w q) b o d).heap[b]? = some (.cells (Go.Sort.putCells (Value.int .i64) o d cs) T (0, 0)) := by
  simp only [putRow, mapBlock, Sort.ahead, Array.getElem?_modify, if_true, h, Option.map_some, onCells]

/-- A row of ints that a function of the shelf has put anew: it is the call's own as before. -/
theorem put_mov {w : World} {S : Nat → Prop} {b o cap q : Nat} {cs : Array Value} {T : TypeId} {xs ys zs : List Int} (hSb : S b) (hSl : ∀ b, S b → b < w.heap.size) (hh : w.heap[b]? = some (.cells cs T (0, 0))) (hfit : o + cap * 1 ≤ cs.size) (hH : Holds (Value.int .i64) w b o xs.toArray)
    (hl : ys.length + zs.length = xs.length) (hcap : xs.length ≤ cap) (hcm : cap ≤ maxLen) : ∃ (S' : Nat → Prop), Frm S w (putRow (Value.int .i64) (Sort.ahead w q) b o (ys ++ zs).toArray) ∧ (∀ c, S' c → (S c ∨ w.heap.size ≤ c) ∧ c < (putRow (Value.int .i64) (Sort.ahead w q) b o (ys ++ zs).toArray).heap.size) ∧
      Own (putRow (Value.int .i64) (Sort.ahead w q) b o (ys ++ zs).toArray) true (fun _ => False) S' (.sl false 1 (ys.map int)) (.slice (some ⟨b, o, none⟩) ys.length cap) := by
  have hsz : (putRow (Value.int .i64) (Sort.ahead w q) b o (ys ++ zs).toArray).heap.size = w.heap.size := by rw [size_putRow]; rfl
  have hH' : Holds (Value.int .i64) (Sort.ahead w q) b o xs.toArray := holds_ahead _ w q b o _ hH
  have hH2 := holds_putRow (Value.int .i64) (Sort.ahead w q) b o xs.toArray (ys ++ zs).toArray hH' (by simp; omega)
  refine ⟨S, ⟨rfl, rfl, rfl, by rw [hsz]; exact Nat.le_refl _, fun k _ hk => putRow_heap fun e => hk (e ▸ hSb)⟩, fun c hc => ⟨.inl hc, by rw [hsz]; exact hSl c hc⟩, ?_⟩
  refine Excl.own (S := S) ⟨_, _, cap, rfl, by simp, by omega, hcm, .inr ⟨b, o, _, T, rfl, rfl, hSb, putRow_own hh, by simp only [Go.Sort.putCells, Array.size_mapIdx]; exact hfit, ownRow_mk fun j x hj => ?_⟩⟩
  have hjl := (List.getElem?_eq_some_iff.1 hj).1
  have := (hH2 j (by simp; omega)).1
  rw [this, getElem!_pos _ j (by simp; omega)]
  simp only [List.getElem_toArray]
  rw [List.getElem_append_left hjl]
  rw [(List.getElem?_eq_some_iff.1 hj).2]

noncomputable def mDel : List AV → Option (List Nat × AV) := mkV (fun p => p.2.1 ≤ p.2.2 ∧ p.2.2 ≤ p.1.length) (fun (p : List Int × Nat × Nat) => [ints false p.1, int p.2.1, int p.2.2]) [0] (fun p => ints false (p.1.take p.2.1 ++ p.1.drop p.2.2))
theorem mDel_at (xs : List Int) (i j : Nat) (h : i ≤ j ∧ j ≤ xs.length) : mDel [.sl false 1 (xs.map int), .v (.int .i64 i), .v (.int .i64 j)] = some ([0], .sl false 1 ((xs.take i ++ xs.drop j).map int)) :=
  mkV_eq (enc := fun (p : List Int × Nat × Nat) => [ints false p.1, int p.2.1, int p.2.2]) (x := (xs, i, j)) (by rintro ⟨a, b, c⟩ ⟨d, e, f⟩ h; simp [ints, int, map_int_inj] at h; obtain ⟨rfl, h1, h2⟩ := h; simp only; rw [show b = e by omega, show c = f by omega]) h

end Go.Proofs.Ytkfgmpmeipilnaa.Ax
