/-
  Contracts: RankingOk (both programs). No condition.
-/
import Derived.Test.YtlkgppincgpfjaaCG4
import Derived.Test.YtlkgppincgpfjaaCG1
import Derived.Test.YtlkgppincgpfjaaCG3
namespace Go.Proofs.Ytlkgppincgpfjaa.Ax
open Go Go.RowKit
set_option linter.unusedSimpArgs false

/-- Number k of the list is a candidate of m who was not met before. -/
def rankAt (m : Int) (l : List Int) (k : Nat) : Bool := inR 0 (m - 1) (l.getD k 0) && !decide (0 ≤ pos (l.take k) (l.getD k 0))
def rankB (m : Int) (l : List Int) : Bool := inR 1 5 m && decide (l.length = m) && allR l.length (rankAt m l)

noncomputable def mRank : List AV → Option AV := mk (fun _ => True) (fun (p : (Int) × (Bool) × (List Int)) => [int p.1, ints p.2.1 p.2.2]) (fun p => bool (rankB p.1 p.2.2))
theorem mRank_at (m : Int) (nl : Bool) (l : List Int) : mRank [.v (.int .i64 m), .sl nl 1 (l.map int)] = some (.v (.bool (rankB m l))) :=
  mk_eq (enc := fun (p : (Int) × (Bool) × (List Int)) => [int p.1, ints p.2.1 p.2.2]) (x := (m, nl, l)) (by rintro ⟨a0, a1, a2⟩ ⟨b0, b1, b2⟩ h; simp [ints, intss, int, bool, row, frac, fracs, map_int_inj, map_row_inj, frac_inj, map_frac_inj] at h; simp [h]) trivial

theorem rankAt_at {m : Int} {l : List Int} {k : Nat} (h : k < l.length) : rankAt m l k = (inR 0 (m - 1) l[k] && !decide (0 ≤ pos (l.take k) l[k])) := by unfold rankAt; rw [getD_at h]

set_option maxHeartbeats 2000000 in
theorem implRankingOk_ok : FnOk Try.prog 55 mRank := by
  refine mk_ok fun ⟨m, nl, l⟩ _ => ?_
  have hG : FnsOk Try.prog [(50, mWithin), (72, mHas)] := (.cons within_ok (.cons slicesContains_ok .nil))
  refine callOk_awp (ctx_ok eqOk hG) mixed (live := [true, true, false, false, true, true, true, false, false, false, false, false, false, false, false, true, true, true, true, true, false, false, false, false, false, false, false, false, false, false, false, false, false, false, true]) (dt := []) Try.func55 rfl (by kernel_rfl) (by kernel_rfl) fun w0 hlens => ?_
  clear hlens
  cases h1 : inR 1 5 m with
  | false => simp (config := {contextual := true}) [Try.f55, List.range, List.range.loop, ints, intss, int, bool, row, frac, fracs, ← List.map_take, ← List.map_drop, mWithin_in, h1, rankB]
  | true =>
  have hm := h1
  simp only [inR, Bool.and_eq_true, decide_eq_true_eq] at hm
  by_cases h2 : (l.length : Int) = m
  rotate_left
  · have h2' : ((l.length : Int) != m) = true := by simpa using h2
    simp (config := {contextual := true}) [Try.f55, List.range, List.range.loop, ints, intss, int, bool, row, frac, fracs, ← List.map_take, ← List.map_drop, mWithin_in, h1, h2, h2', rankB]
  subst h2
  have hw0 : IntKind.i64.wrap ((l.length : Int) - 1) = (l.length : Int) - 1 := wrapI (by omega) (by omega)
  have hr : rankB l.length l = allR l.length (rankAt l.length l) := by simp [rankB, h1]
  generalize hres : rankB l.length l = r at hr
  simp (config := {contextual := true}) [Try.f55, List.range, List.range.loop, ints, intss, int, bool, row, frac, fracs, ← List.map_take, ← List.map_drop, mWithin_in, h1]
  refine awp_range (live := [true, true, false, false, true, true, true, false, false, false, false, false, false, false, false, true, true, true, true, true, false, false, false, false, false, false, false, false, false, false, false, false, false, false, true]) (ctx_ok eqOk hG) mixed [true, true, false, false, false, false, false, false, false, false, false, false, false, false, false, false, true, true, true] (l.length) (fun k => upto (rankAt l.length l) k) (fun k => ⟨[int l.length, ints nl l, .junk, .junk, .junk, .junk, .junk, .junk, .junk, .junk, .junk, .junk, .junk, .junk, .junk, .junk, ints nl l, int l.length, int k, .junk, .junk, .junk, .junk, .junk, .junk, .junk, .junk, .junk, .junk, .junk, .junk, .junk, .junk, .junk, .junk, .junk], []⟩) ?_ (by simp [sub, slotsLe, clean, keep, refsL, refs, once, place, renL, ren, List.replicate, int, bool, ints]) ?_ ?_ ?_
  · omega
  · exact upto_zero
  · intro k h hp hwk
    have hf : rankAt l.length l k = false → r = false := fun hf => by rw [hr]; exact allR_no h hf
    have ht := upto_succ hp
    clear hp
    have e := rankAt_at (m := l.length) h
    generalize rankAt l.length l = f at *
    generalize hi : inR 0 ((l.length : Int) - 1) l[k] = ii at e
    rw [e] at hf ht
    simp at hf ht
    simp (config := {contextual := true}) [List.range, List.range.loop, ints, intss, int, bool, row, frac, fracs, ← List.map_take, ← List.map_drop, h, hwk, hw0, mWithin_in, mHas_at, hi, Nat.le_of_lt h]
    grind
  · intro hp
    rw [allR_yes hp] at hr
    subst hr
    simp (config := {contextual := true}) [List.range, List.range.loop, ints, intss, int, bool, row, frac, fracs, ← List.map_take, ← List.map_drop]

set_option maxHeartbeats 2000000 in
theorem specRankingOk_ok : FnOk Try.prog 44 mRank := by
  refine mk_ok fun ⟨m, nl, l⟩ _ => ?_
  have hG : FnsOk Try.prog [(41, mWithin)] := (.cons l01In_ok .nil)
  refine callOk_awp (ctx_ok eqOk hG) mixed (live := [true, true, false, false, true, true, false, true, false, false, false, false, false, false, false, false, true, false, false, true, true, true, true, false, false, false, false, false, false, false, false, false, false, false, false, true]) (dt := []) Try.func44 rfl (by kernel_rfl) (by kernel_rfl) fun w0 hlens => ?_
  clear hlens
  cases h1 : inR 1 5 m with
  | false => simp (config := {contextual := true}) [Try.f44, List.range, List.range.loop, ints, intss, int, bool, row, frac, fracs, ← List.map_take, ← List.map_drop, mWithin_in, h1, rankB]
  | true =>
  have hm := h1
  simp only [inR, Bool.and_eq_true, decide_eq_true_eq] at hm
  by_cases h2 : (l.length : Int) = m
  rotate_left
  · have h2' : ((l.length : Int) != m) = true := by simpa using h2
    simp (config := {contextual := true}) [Try.f44, List.range, List.range.loop, ints, intss, int, bool, row, frac, fracs, ← List.map_take, ← List.map_drop, mWithin_in, h1, h2, h2', rankB]
  subst h2
  have hw0 : IntKind.i64.wrap ((l.length : Int) - 1) = (l.length : Int) - 1 := wrapI (by omega) (by omega)
  have hr : rankB l.length l = allR l.length (rankAt l.length l) := by simp [rankB, h1]
  generalize hres : rankB l.length l = r at hr
  have hb1 : l.length ≤ 281474976710656 := by omega
  have hb2 : l.length ≤ 4611686018427387904 := by omega
  simp (config := {contextual := true}) [Try.f44, List.range, List.range.loop, ints, intss, int, bool, row, frac, fracs, ← List.map_take, ← List.map_drop, mWithin_in, h1, hb1, hb2]
  refine awp_range (live := [true, true, false, false, true, true, false, true, false, false, false, false, false, false, false, false, true, false, false, true, true, true, true, false, false, false, false, false, false, false, false, false, false, false, false, true]) (ctx_ok eqOk hG) mixed [true, false, false, false, false, true, false, false, false, false, false, false, false, false, false, false, false, false, false, true, true, true] (l.length) (fun k => upto (rankAt l.length l) k) (fun k => ⟨[int l.length, .junk, .junk, .junk, .junk, .ref 0 [] 0 l.length, .junk, .junk, .junk, .junk, .junk, .junk, .junk, .junk, .junk, .junk, .junk, .junk, .junk, ints nl l, int l.length, int k, .junk, .junk, .junk, .junk, .junk, .junk, .junk, .junk, .junk, .junk, .junk, .junk, .junk, .junk, .junk, .junk, .junk, .junk], [⟨true, .sl false 1 ((seenL l.length l k).map bool)⟩]⟩) ?_ (by simp [sub, slotsLe, clean, keep, refsL, refs, once, place, renL, ren, List.replicate, int, bool, ints, seenL_zero]) ?_ ?_ ?_
  · omega
  · exact upto_zero
  · intro k h hp hwk
    have hf : rankAt l.length l k = false → r = false := fun hf => by rw [hr]; exact allR_no h hf
    have ht := upto_succ hp
    clear hp
    have e := rankAt_at (m := l.length) h
    have i0 : inR 0 ((l.length : Int) - 1) l[k] = true → 0 ≤ l[k] := fun hi => by simp [inR] at hi; omega
    have i1 : inR 0 ((l.length : Int) - 1) l[k] = true → l[k].toNat < l.length := fun hi => by simp [inR] at hi; omega
    have i4 : inR 0 ((l.length : Int) - 1) l[k] = true → ((l[k].toNat : Nat) : Int) = l[k] := fun hi => by have := i0 hi; omega
    have i3 : inR 0 ((l.length : Int) - 1) l[k] = true → ((seenL l.length l k).map bool).set l[k].toNat (.v (.bool true)) = (seenL l.length l (k + 1)).map bool := fun hi => seenL_set h (i0 hi) (i1 hi)
    generalize rankAt l.length l = f at *
    rw [e] at hf ht
    simp at hf ht
    simp (config := {contextual := true}) [List.range, List.range.loop, ints, intss, int, bool, row, frac, fracs, ← List.map_take, ← List.map_drop, h, hwk, hw0, mWithin_in, i0, i1, i3, i4, seenL_at, seenL_len]
    grind
  · intro hp
    rw [allR_yes hp] at hr
    subst hr
    simp (config := {contextual := true}) [List.range, List.range.loop, ints, intss, int, bool, row, frac, fracs, ← List.map_take, ← List.map_drop]

end Go.Proofs.Ytlkgppincgpfjaa.Ax

/-
  Contracts: comparisons of fractions (both programs); a ranking names every candidate. No condition.
-/
namespace Go.Proofs.Ytlkgppincgpfjaa.Ax
open Go Go.RowKit
set_option linter.unusedSimpArgs false

def cmpI (x y : Int) : Int := if x < y then -1 else if y < x then 1 else 0
noncomputable def mCmpI : List AV → Option AV := mk (fun _ => True) (fun (p : (Int) × (Int)) => [int p.1, int p.2]) (fun p => int (cmpI p.1 p.2))
theorem mCmpI_at (x : Int) (y : Int) : mCmpI [.v (.int .i64 x), .v (.int .i64 y)] = some (.v (.int .i64 (cmpI x y))) :=
  mk_eq (enc := fun (p : (Int) × (Int)) => [int p.1, int p.2]) (x := (x, y)) (by rintro ⟨a0, a1⟩ ⟨b0, b1⟩ h; simp [ints, intss, int, bool, row, frac, fracs, map_int_inj, map_row_inj, frac_inj, map_frac_inj] at h; simp [h]) trivial
noncomputable def mNaN : List AV → Option AV := mk (fun _ => True) (fun (p : (Int)) => [int p]) (fun _ => bool false)
theorem mNaN_at (x : Int) : mNaN [.v (.int .i64 x)] = some (.v (.bool false)) :=
  mk_eq (enc := fun (p : (Int)) => [int p]) (x := (x)) (by rintro a0 b0 h; simp [ints, intss, int, bool, row, frac, fracs, map_int_inj, map_row_inj, frac_inj, map_frac_inj] at h; simp [h]) trivial
noncomputable def mCmpF : List AV → Option AV := mk (fun _ => True) (fun (p : (Int) × (Int) × (Int) × (Int)) => [frac (p.1, p.2.1), frac (p.2.2.1, p.2.2.2)]) (fun p => int (cmpF (p.1, p.2.1) (p.2.2.1, p.2.2.2)))
theorem mCmpF_at (a : Int) (b : Int) (c : Int) (d : Int) : mCmpF [.agg [.v (.int .i64 a), .v (.int .i64 b)], .agg [.v (.int .i64 c), .v (.int .i64 d)]] = some (.v (.int .i64 (cmpF (a, b) (c, d)))) :=
  mk_eq (enc := fun (p : (Int) × (Int) × (Int) × (Int)) => [frac (p.1, p.2.1), frac (p.2.2.1, p.2.2.2)]) (x := (a, b, c, d)) (by rintro ⟨a0, a1, a2, a3⟩ ⟨b0, b1, b2, b3⟩ h; simp [ints, intss, int, bool, row, frac, fracs, map_int_inj, map_row_inj, frac_inj, map_frac_inj] at h; simp [h]) trivial
noncomputable def mLessF : List AV → Option AV := mk (fun _ => True) (fun (p : (Int) × (Int) × (Int) × (Int)) => [frac (p.1, p.2.1), frac (p.2.2.1, p.2.2.2)]) (fun p => bool (decide (cmpF (p.1, p.2.1) (p.2.2.1, p.2.2.2) = -1)))
theorem mLessF_at (a : Int) (b : Int) (c : Int) (d : Int) : mLessF [.agg [.v (.int .i64 a), .v (.int .i64 b)], .agg [.v (.int .i64 c), .v (.int .i64 d)]] = some (.v (.bool (decide (cmpF (a, b) (c, d) = -1)))) :=
  mk_eq (enc := fun (p : (Int) × (Int) × (Int) × (Int)) => [frac (p.1, p.2.1), frac (p.2.2.1, p.2.2.2)]) (x := (a, b, c, d)) (by rintro ⟨a0, a1, a2, a3⟩ ⟨b0, b1, b2, b3⟩ h; simp [ints, intss, int, bool, row, frac, fracs, map_int_inj, map_row_inj, frac_inj, map_frac_inj] at h; simp [h]) trivial
theorem addF_frac {x y : Int × Int} (h : (addF x y).2 = true) : fracOk (addF x y).1 = true ∧ fracOk x = true ∧ fracOk y = true := by
  unfold addF mkF at h ⊢
  split
  · rename_i h1
    rw [if_pos h1] at h
    simp only [Bool.and_eq_true] at h1
    split
    · rename_i h2; exact ⟨h2, h1.1, h1.2⟩
    · rename_i h2; rw [if_neg h2] at h; simp at h
  · rename_i h1; rw [if_neg h1] at h; simp at h
theorem cmpF_neg {x y : Int × Int} (hx : fracOk x = true) (hy : fracOk y = true) : cmpF x y < 0 ↔ cmpF x y = -1 := by
  unfold cmpF; rw [hx, hy]
  simp only [Bool.and_true, if_true]
  split
  · simp
  · split <;> simp

theorem nodup_le : ∀ {L M : List Nat}, L.Nodup → (∀ x ∈ L, x ∈ M) → L.length ≤ M.length
  | [], _, _, _ => by simp
  | x :: L, M, h, hs => by
    rw [List.nodup_cons] at h
    have hx := hs x (by simp)
    have := nodup_le (L := L) (M := M.erase x) h.2 fun y hy => (List.mem_erase_of_ne (fun (e : y = x) => h.1 (by rw [← e]; exact hy))).2 (hs y (by simp [hy]))
    rw [List.length_erase_of_mem hx] at this
    have hp := List.length_pos_of_mem hx
    simp only [List.length_cons]; omega

theorem posFrom_iff {v : Int} : ∀ {xs : List Int} {k : Nat}, 0 ≤ posFrom v xs k ↔ v ∈ xs
  | [], k => by simp [posFrom]
  | x :: xs, k => by
    rw [posFrom]
    by_cases e : x = v
    · rw [if_pos e]; subst e; simp
    · rw [if_neg e, posFrom_iff, List.mem_cons]; exact ⟨.inr, fun h => h.resolve_left fun e' => e e'.symm⟩
theorem pos_iff {v : Int} {xs : List Int} : 0 ≤ pos xs v ↔ v ∈ xs := posFrom_iff

/-- What a valid ranking is. -/
theorem rank_facts {m : Int} {l : List Int} (h : rankB m l = true) : 1 ≤ m ∧ m ≤ 5 ∧ (l.length : Int) = m ∧ (∀ i (hi : i < l.length), 0 ≤ l[i] ∧ l[i] < m) ∧ l.Nodup := by
  simp only [rankB, Bool.and_eq_true, decide_eq_true_eq, inR] at h
  obtain ⟨⟨⟨h1, h2⟩, h3⟩, h4⟩ := h
  have hat : ∀ i (hi : i < l.length), (0 ≤ l[i] ∧ l[i] < m) ∧ l[i] ∉ l.take i := fun i hi => by
    have := List.all_eq_true.1 h4 i (by simpa using hi)
    rw [rankAt_at hi] at this
    simp only [Bool.and_eq_true, inR, decide_eq_true_eq, Bool.not_eq_true', decide_eq_false_iff_not, pos_iff] at this
    exact ⟨⟨this.1.1, by omega⟩, this.2⟩
  refine ⟨h1, h2, h3, fun i hi => (hat i hi).1, ?_⟩
  rw [List.nodup_iff_pairwise_ne, List.pairwise_iff_getElem]
  intro i j hi hj hij e
  exact (hat j hj).2 (List.mem_iff_getElem.2 ⟨i, by simp; omega, by rw [List.getElem_take]; exact e⟩)
/-- A ranking names every candidate. -/
theorem rank_all {m : Int} {l : List Int} (h : rankB m l = true) {i : Nat} (hi : (i : Int) < m) : ∃ k, ∃ hk : k < l.length, l[k] = i := by
  obtain ⟨h1, h2, h3, h4, h5⟩ := rank_facts h
  apply Classical.byContradiction
  intro hno
  have hin : ∀ x ∈ l, 0 ≤ x ∧ x < m := fun x hx => by
    obtain ⟨j, hj, rfl⟩ := List.getElem_of_mem hx; exact h4 j hj
  have hni : (i : Int) ∉ l := fun hx => by
    obtain ⟨j, hj, e⟩ := List.getElem_of_mem hx; exact hno ⟨j, hj, e⟩
  have hnd : (i :: l.map Int.toNat).Nodup := by
    rw [List.nodup_cons]
    refine ⟨fun hx => ?_, ?_⟩
    · obtain ⟨x, hx, e⟩ := List.mem_map.1 hx
      have := hin x hx
      exact hni (by rw [← e, Int.toNat_of_nonneg this.1]; exact hx)
    · rw [List.nodup_iff_pairwise_ne, List.pairwise_map]
      rw [List.nodup_iff_pairwise_ne] at h5
      refine List.Pairwise.imp_of_mem (fun {a b} ha hb hab e => hab ?_) h5
      have := hin a ha; have := hin b hb; omega
  have := nodup_le (M := List.range l.length) hnd fun x hx => by
    rw [List.mem_range]
    rcases List.mem_cons.1 hx with rfl | hx
    · omega
    · obtain ⟨y, hy, rfl⟩ := List.mem_map.1 hx
      have := hin y hy; omega
  simp at this
  omega

end Go.Proofs.Ytlkgppincgpfjaa.Ax

/-
  Fractions of a common divisor: sums, differences and quotients of them. No condition.
-/
namespace Go.Proofs.Ytlkgppincgpfjaa.Ax
open Go Go.RowKit
set_option linter.unusedSimpArgs false

/-- a parts of D, in the least terms. -/
def qd (a D : Int) : Int × Int := ((Rat.divInt a D).num, ((Rat.divInt a D).den : Int))

theorem red_num {t b : Int} (hb : 0 < b) : (Rat.divInt t b).num = t.tdiv (Int.gcd t b) ∧ ((Rat.divInt t b).den : Int) = b.tdiv (Int.gcd t b) := by
  obtain ⟨g1, g2⟩ := gcd_bd (x := t) (y := b) (by omega)
  have hd1 : (Int.gcd t b : Int) ∣ t := Int.gcd_dvd_left ..
  have hd2 : (Int.gcd t b : Int) ∣ b := Int.gcd_dvd_right ..
  constructor
  · rw [Rat.num_divInt]
    have hs : b.sign = 1 := Int.sign_eq_one_of_pos hb
    rw [hs, Int.one_mul, Int.gcd_comm]
    exact (Int.tdiv_eq_ediv_of_dvd hd1).symm
  · rw [Rat.den_divInt, if_neg (by omega)]
    rw [Int.tdiv_eq_ediv_of_dvd hd2, Int.natCast_ediv, Int.gcd_comm]
    congr 1
    omega

theorem mkF_qd {t b : Int} (hb : 0 < b) : mkF t b = if fracOk (qd t b) = true then (qd t b, true) else ((0, 0), false) := by
  obtain ⟨h1, h2⟩ := red_num (t := t) hb
  unfold mkF qd
  rw [h1, h2]

theorem qd_val {a D : Int} : val (qd a D) = Rat.divInt a D := by unfold val qd; exact Rat.num_divInt_den _
theorem qd_congr {a D b E : Int} (h : Rat.divInt a D = Rat.divInt b E) : qd a D = qd b E := by unfold qd; rw [h]

theorem qd_ok {a D : Int} (hD : 0 < D) (hD1 : D ≤ 1000000000) (ha : -1000000000 ≤ a ∧ a ≤ 1000000000) : fracOk (qd a D) = true := by
  obtain ⟨h1, h2⟩ := red_num (t := a) hD
  obtain ⟨g1, g2⟩ := gcd_bd (x := a) (y := D) (by omega)
  have hden : (1 : Int) ≤ (Rat.divInt a D).den := by have := (Rat.divInt a D).den_pos; omega
  have hde : ((Rat.divInt a D).den : Int) ≤ 1000000000 := by
    have := tdiv_bd (x := D) (y := Int.gcd a D) (m := 1000000000) (by omega) (by omega)
    rw [h2]; omega
  have hnu : -1000000000 ≤ (Rat.divInt a D).num ∧ (Rat.divInt a D).num ≤ 1000000000 := by
    have := tdiv_bd (x := a) (y := Int.gcd a D) (m := 1000000000) (by omega) (by omega)
    rw [h1]; omega
  have hco : Int.gcd (Rat.divInt a D).num ((Rat.divInt a D).den : Int) = 1 := by
    have := (Rat.divInt a D).reduced
    rw [Nat.coprime_iff_gcd_eq_one] at this
    rw [← this]; simp [Int.gcd]
  unfold fracOk qd
  simp only [Bool.and_eq_true, decide_eq_true_eq]
  refine ⟨⟨?_, ?_⟩, ?_⟩ <;> first | omega | simp [hco] | (exact_mod_cast hco)

/-- The parts, and what they are in the least terms. -/
theorem qd_parts {a D : Int} (hD : 0 < D) : ∃ g : Int, 0 < g ∧ (qd a D).1 * g = a ∧ (qd a D).2 * g = D := by
  obtain ⟨h1, h2⟩ := red_num (t := a) hD
  obtain ⟨g1, g2⟩ := gcd_bd (x := a) (y := D) (by omega)
  refine ⟨(Int.gcd a D : Int), by omega, ?_, ?_⟩
  · show (Rat.divInt a D).num * _ = a
    rw [h1]; exact Int.tdiv_mul_cancel (Int.gcd_dvd_left ..)
  · show ((Rat.divInt a D).den : Int) * _ = D
    rw [h2]; exact Int.tdiv_mul_cancel (Int.gcd_dvd_right ..)

theorem qd_scale {a D c : Int} (hc : 0 < c) : qd (c * a) (c * D) = qd a D := qd_congr (Rat.divInt_mul_left (by omega))
theorem qd_pos {a D : Int} (hD : 0 < D) : 0 < (qd a D).1 ↔ 0 < a := by
  obtain ⟨g, h0, h1, _⟩ := qd_parts (a := a) hD
  constructor
  · intro h
    have := Int.mul_pos h h0
    rw [h1] at this; exact this
  · intro h
    rcases Int.lt_or_le 0 (qd a D).1 with h2 | h2
    · exact h2
    · have := Int.mul_nonneg (show 0 ≤ -(qd a D).1 by omega) (show (0 : Int) ≤ g by omega)
      rw [Int.neg_mul, h1] at this
      omega
theorem qd_den {a D : Int} (hD : 0 < D) : 0 < (qd a D).2 := by
  obtain ⟨g, h0, _, h2⟩ := qd_parts (a := a) hD
  rcases Int.lt_or_le 0 (qd a D).2 with h | h
  · exact h
  · have := Int.mul_nonneg (show 0 ≤ -(qd a D).2 by omega) (show (0 : Int) ≤ g by omega)
    rw [Int.neg_mul, h2] at this
    omega

theorem add_divInt {a b D : Int} (hD : 0 < D) : Rat.divInt a D + Rat.divInt b D = Rat.divInt (a + b) D := by
  rw [Rat.divInt_add_divInt _ _ (by omega) (by omega)]
  have e : a * D + b * D = D * (a + b) := by rw [← Int.add_mul, Int.mul_comm]
  rw [e]
  exact Rat.divInt_mul_left (by omega)

theorem addF_qd {a b D : Int} (hD : 0 < D) (hD1 : D ≤ 1000000000) (ha : -1000000000 ≤ a ∧ a ≤ 1000000000) (hb : -1000000000 ≤ b ∧ b ≤ 1000000000) (hab : -1000000000 ≤ a + b ∧ a + b ≤ 1000000000) : addF (qd a D) (qd b D) = (qd (a + b) D, true) := by
  have h1 := qd_ok hD hD1 ha
  have h2 := qd_ok hD hD1 hb
  have h3 := qd_ok hD hD1 hab
  have p1 := qd_den (a := a) hD
  have p2 := qd_den (a := b) hD
  unfold addF
  rw [h1, h2]
  simp only [Bool.and_self, if_true]
  rw [mkF_qd (Int.mul_pos p1 p2)]
  have e : qd ((qd a D).1 * (qd b D).2 + (qd b D).1 * (qd a D).2) ((qd a D).2 * (qd b D).2) = qd (a + b) D := by
    refine qd_congr ?_
    rw [← Rat.divInt_add_divInt _ _ (by omega) (by omega)]
    have v1 : Rat.divInt (qd a D).1 (qd a D).2 = Rat.divInt a D := qd_val (a := a) (D := D)
    have v2 : Rat.divInt (qd b D).1 (qd b D).2 = Rat.divInt b D := qd_val (a := b) (D := D)
    rw [v1, v2, add_divInt hD]
  rw [e, if_pos h3]

theorem neg_qd {a D : Int} : (-(qd a D).1, (qd a D).2) = qd (-a) D := by
  unfold qd
  have : Rat.divInt (-a) D = -(Rat.divInt a D) := (Rat.neg_divInt _ _).symm
  rw [this]; rfl
theorem subF_qd {a b D : Int} (hD : 0 < D) (hD1 : D ≤ 1000000000) (ha : -1000000000 ≤ a ∧ a ≤ 1000000000) (hb : -1000000000 ≤ b ∧ b ≤ 1000000000) (hab : -1000000000 ≤ a - b ∧ a - b ≤ 1000000000) : subF (qd a D) (qd b D) = (qd (a - b) D, true) := by
  unfold subF
  rw [neg_qd, addF_qd hD hD1 ha (by omega) (by omega)]
  rfl

theorem cmpF_qd {a b D : Int} (hD : 0 < D) (hD1 : D ≤ 1000000000) (ha : -1000000000 ≤ a ∧ a ≤ 1000000000) (hb : -1000000000 ≤ b ∧ b ≤ 1000000000) : cmpF (qd a D) (qd b D) = cmpI a b := by
  have h1 := qd_ok hD hD1 ha
  have h2 := qd_ok hD hD1 hb
  obtain ⟨g1, p1, e1, f1⟩ := qd_parts (a := a) hD
  obtain ⟨g2, p2, e2, f2⟩ := qd_parts (a := b) hD
  have key : ∀ x y : Int, (x = (qd a D).1 * (qd b D).2) → (y = (qd b D).1 * (qd a D).2) → (x < y ↔ a < b) ∧ (y < x ↔ b < a) := by
    intro x y hx hy
    have k1 : x * (g1 * g2) = a * D := by
      have : a * D = ((qd a D).1 * g1) * ((qd b D).2 * g2) := by rw [e1, f2]
      rw [hx, this]; simp only [Int.mul_assoc, Int.mul_left_comm, Int.mul_comm]
    have k2 : y * (g1 * g2) = b * D := by
      have : b * D = ((qd b D).1 * g2) * ((qd a D).2 * g1) := by rw [e2, f1]
      rw [hy, this]; simp only [Int.mul_assoc, Int.mul_left_comm, Int.mul_comm]
    have hg : 0 < g1 * g2 := Int.mul_pos p1 p2
    constructor
    · rw [← Int.mul_lt_mul_right hg, k1, k2, Int.mul_lt_mul_right hD]
    · rw [← Int.mul_lt_mul_right hg, k1, k2, Int.mul_lt_mul_right hD]
  obtain ⟨k1, k2⟩ := key _ _ rfl rfl
  unfold cmpF cmpI
  rw [h1, h2]
  simp only [Bool.and_self, if_true, k1, k2]

theorem divF_qd {a D k : Int} (hD : 0 < D) (hk : 0 < k) (hDk : D * k ≤ 1000000000) (ha : -1000000000 ≤ a ∧ a ≤ 1000000000) : mkF (qd a D).1 ((qd a D).2 * k) = (qd a (D * k), true) := by
  have p1 := qd_den (a := a) hD
  rw [mkF_qd (Int.mul_pos p1 hk)]
  have h3 := qd_ok (Int.mul_pos hD hk) hDk ha
  have e : qd (qd a D).1 ((qd a D).2 * k) = qd a (D * k) := by
    obtain ⟨g, p2, e1, f1⟩ := qd_parts (a := a) hD
    have h := qd_scale (a := (qd a D).1) (D := (qd a D).2 * k) p2
    rw [← h]
    have e2 : g * (qd a D).1 = a := by rw [Int.mul_comm]; exact e1
    have e3 : g * ((qd a D).2 * k) = D * k := by rw [← Int.mul_assoc, Int.mul_comm g]; rw [f1]
    rw [e2, e3]
  rw [e, if_pos h3]

end Go.Proofs.Ytlkgppincgpfjaa.Ax

/-
  The plain law of TransferOrder: an insertion from the right and one from the left put a number at the same place. No condition.
-/
namespace Go.Proofs.Ytlkgppincgpfjaa.Ax
open Go Go.RowKit
set_option linter.unusedSimpArgs false

section
variable {c : Int → Int → Int} {le : Int → Int → Prop} {D : Int → Prop}

/-- Where x is put in, by the numbers that may stand ahead of it. -/
theorem ins_split (hc : ∀ x y, D x → D y → (c x y < 0 ↔ ¬ le y x)) (htr : ∀ x y z, D x → D y → D z → le x y → le y z → le x z) {ys : List Int} {x : Int} {k : Nat} (hD : ∀ y ∈ ys, D y) (hx : D x) (hs : ys.Pairwise le) (hk : k ≤ ys.length)
    (h1 : ∀ i (h : i < ys.length), i < k → le ys[i] x) (h2 : k = ys.length ∨ ∃ h : k < ys.length, ¬ le ys[k] x) : ins c ys x = ys.take k ++ x :: ys.drop k := by
  have key : ∀ m, k ≤ m → m ≤ ys.length → insFrom c ys x m = ys.take k ++ x :: ys.drop k := by
    intro m
    induction m with
    | zero => intro hkm _; obtain rfl : k = 0 := by omega
              simp [insFrom]
    | succ m ih =>
      intro hkm hml
      have hml' : m < ys.length := by omega
      have hg : ys.getD m 0 = ys[m] := by simp [List.getD_eq_getElem?_getD, hml']
      have hDm : D ys[m] := hD _ (List.getElem_mem _)
      by_cases e : k = m + 1
      · subst e
        have hle := h1 m hml' (by omega)
        rw [insFrom, hg, if_neg (fun h => ((hc x ys[m] hx hDm).1 h) hle)]
      · rw [insFrom, hg, if_pos, ih (by omega) (by omega)]
        refine (hc x ys[m] hx hDm).2 fun hle => ?_
        rcases h2 with h2 | ⟨hkl, h2⟩
        · omega
        · by_cases e2 : k = m
          · subst e2; exact h2 hle
          · exact h2 (htr _ _ _ (hD _ (List.getElem_mem _)) hDm hx (List.pairwise_iff_getElem.1 hs k m hkl hml' (by omega)) hle)
  exact key ys.length hk (Nat.le_refl _)

theorem split_at (le : Int → Int → Prop) (x : Int) : ∀ ys : List Int, ∃ k, k ≤ ys.length ∧ (∀ i (h : i < ys.length), i < k → le ys[i] x) ∧ (k = ys.length ∨ ∃ h : k < ys.length, ¬ le ys[k] x)
  | [] => ⟨0, by simp, fun i h => by simp at h, .inl rfl⟩
  | y :: ys => by
    by_cases hy : le y x
    · obtain ⟨k, h1, h2, h3⟩ := split_at le x ys
      refine ⟨k + 1, by simpa using h1, fun i h hi => ?_, ?_⟩
      · cases i with
        | zero => exact hy
        | succ i => exact h2 i (by simpa using h) (by omega)
      · rcases h3 with h3 | ⟨h3, h4⟩
        · left; simp [h3]
        · right; exact ⟨by simpa using h3, h4⟩
    · exact ⟨0, by simp, fun i _ hi => by omega, .inr ⟨by simp, hy⟩⟩

theorem ins_sorted (hc : ∀ x y, D x → D y → (c x y < 0 ↔ ¬ le y x)) (htr : ∀ x y z, D x → D y → D z → le x y → le y z → le x z) (hto : ∀ x y, D x → D y → ¬ le y x → le x y) {ys : List Int} {x : Int} (hD : ∀ y ∈ ys, D y) (hx : D x) (hs : ys.Pairwise le) : (ins c ys x).Pairwise le := by
  obtain ⟨k, h1, h2, h3⟩ := split_at le x ys
  rw [ins_split hc htr hD hx hs h1 h2 h3]
  have hkey : ∀ j (h : j < ys.length), k ≤ j → le x ys[j] := fun j hj hkj => by
    rcases h3 with h3 | ⟨hkl, h3⟩
    · omega
    · have hxk := hto _ _ hx (hD _ (List.getElem_mem hkl)) h3
      by_cases e : k = j
      · subst e; exact hxk
      · exact htr _ _ _ hx (hD _ (List.getElem_mem hkl)) (hD _ (List.getElem_mem hj)) hxk (List.pairwise_iff_getElem.1 hs k j hkl hj (by omega))
  rw [List.pairwise_append, List.pairwise_cons]
  refine ⟨hs.take, ⟨fun y hy => ?_, hs.drop⟩, fun a ha b hb => ?_⟩
  · obtain ⟨i, hi, rfl⟩ := List.getElem_of_mem hy
    rw [List.getElem_drop]
    exact hkey _ _ (by omega)
  · obtain ⟨i, hi, rfl⟩ := List.getElem_of_mem ha
    rw [List.getElem_take]
    have hik : i < k := by simp at hi; omega
    have hil : i < ys.length := by omega
    rcases List.mem_cons.1 hb with rfl | hb
    · exact h2 i hil hik
    · obtain ⟨j, hj, rfl⟩ := List.getElem_of_mem hb
      rw [List.getElem_drop]
      exact List.pairwise_iff_getElem.1 hs i (k + j) hil (by simp at hj; omega) (by omega)

theorem isort_sorted (hc : ∀ x y, D x → D y → (c x y < 0 ↔ ¬ le y x)) (htr : ∀ x y z, D x → D y → D z → le x y → le y z → le x z) (hto : ∀ x y, D x → D y → ¬ le y x → le x y) (xs : List Int) (hD : ∀ y ∈ xs, D y) : (isort c xs).Pairwise le := by
  unfold isort
  suffices h : ∀ (xs ys : List Int), (∀ y ∈ xs, D y) → (∀ y ∈ ys, D y) → ys.Pairwise le → (xs.foldl (ins c) ys).Pairwise le from h xs [] hD (by simp) .nil
  intro xs
  induction xs with
  | nil => intro ys _ _ h; exact h
  | cons x xs ih =>
    intro ys h1 h2 h3
    refine ih _ (fun y hy => h1 y (by simp [hy])) (fun y hy => ?_) (ins_sorted hc htr hto h2 (h1 x (by simp)) h3)
    rcases mem_insFrom.1 hy with rfl | hy
    · exact h1 _ (by simp)
    · exact h2 y hy
end

/-- Quotients compared; one by 0 is greater than all others. -/
def cmpR (a b c d : Int) : Int := if b = 0 ∨ d = 0 then IntKind.i64.wrap (cmpI d 0 - cmpI b 0) else cmpI (a * d) (c * b)
def ratC (u v : List Int) (x y : Int) : Int := cmpR (at0 u x.toNat) (at0 v x.toNat) (at0 u y.toNat) (at0 v y.toNat)
def leR (u v : List Int) (x y : Int) : Prop := at0 u x.toNat * at0 v y.toNat ≤ at0 u y.toNat * at0 v x.toNat
instance {u v : List Int} {x y : Int} : Decidable (leR u v x y) := by unfold leR; infer_instance
/-- Of the things of which one heir has a point at least. -/
def domR (u v : List Int) (x : Int) : Prop := 0 ≤ at0 u x.toNat ∧ 0 ≤ at0 v x.toNat ∧ 0 < at0 u x.toNat + at0 v x.toNat

theorem cmpI_neg {x y : Int} : cmpI x y < 0 ↔ x < y := by unfold cmpI; split <;> (try split) <;> omega
theorem ratC_neg {u v : List Int} {x y : Int} (hx : domR u v x) (hy : domR u v y) : ratC u v x y < 0 ↔ ¬ leR u v y x := by
  unfold ratC leR cmpR
  obtain ⟨a0, a1, a2⟩ := hx
  obtain ⟨b0, b1, b2⟩ := hy
  generalize at0 u x.toNat = a at *
  generalize at0 v x.toNat = b at *
  generalize at0 u y.toNat = c at *
  generalize at0 v y.toNat = d at *
  split
  · rename_i h
    have w1 : IntKind.i64.wrap (cmpI d 0 - cmpI b 0) = cmpI d 0 - cmpI b 0 := by
      unfold cmpI
      split <;> (try split) <;> (try split) <;> (try split) <;> exact wrapI (by omega) (by omega)
    rw [w1]
    by_cases hb : b = 0
    · subst hb
      by_cases hd : d = 0
      · subst hd; simp [cmpI]
      · have : 0 < d := by omega
        have h1 : ¬ d < 0 := by omega
        have hm : 0 ≤ a * d := Int.mul_nonneg a0 b1
        simp [cmpI, h1, this, hm]
    · obtain rfl : d = 0 := h.resolve_left hb
      have hb' : 0 < b := by omega
      have h1 : ¬ b < 0 := by omega
      have hc : 0 < c := by omega
      have := Int.mul_pos hc hb'
      simp [cmpI, h1, hb']
      omega
  · rw [cmpI_neg]; omega
theorem leR_trans {u v : List Int} {x y z : Int} (hx : domR u v x) (hy : domR u v y) (hz : domR u v z) (h1 : leR u v x y) (h2 : leR u v y z) : leR u v x z := by
  unfold leR at *
  obtain ⟨a0, a1, a2⟩ := hx
  obtain ⟨b0, b1, b2⟩ := hy
  obtain ⟨c0, c1, c2⟩ := hz
  generalize at0 u x.toNat = a at *
  generalize at0 v x.toNat = b at *
  generalize at0 u y.toNat = c at *
  generalize at0 v y.toNat = d at *
  generalize at0 u z.toNat = e at *
  generalize at0 v z.toNat = f at *
  by_cases hd : d = 0
  · subst hd
    have hc : 0 < c := by omega
    have hf : f = 0 := by
      have : c * f ≤ 0 := by simpa using h2
      rcases Int.lt_or_le 0 f with h | h
      · have := Int.mul_pos hc h; omega
      · omega
    subst hf
    have := Int.mul_nonneg c0 a1
    simpa using this
  · have hd' : 0 < d := by omega
    have k1 : a * d * f ≤ c * b * f := Int.mul_le_mul_of_nonneg_right h1 c1
    have k2 : c * f * b ≤ e * d * b := Int.mul_le_mul_of_nonneg_right h2 a1
    have k3 : (a * f) * d ≤ (e * b) * d := by
      have e1 : a * f * d = a * d * f := by rw [Int.mul_right_comm]
      have e2 : c * b * f = c * f * b := by rw [Int.mul_right_comm]
      have e3 : e * d * b = e * b * d := by rw [Int.mul_right_comm]
      omega
    exact Int.le_of_mul_le_mul_right k3 hd'
theorem leR_total {u v : List Int} {x y : Int} (h : ¬ leR u v y x) : leR u v x y := by unfold leR at *; omega

/-- The things that are chosen, up to k. -/
def selTo (p : Nat → Bool) (k : Nat) : List Int := ((List.range k).filter p).map fun (i : Nat) => (i : Int)
theorem selTo_zero {p : Nat → Bool} : selTo p 0 = [] := rfl
theorem selTo_yes {p : Nat → Bool} {k : Nat} (h : p k = true) : selTo p (k + 1) = selTo p k ++ [(k : Int)] := by simp [selTo, List.range_succ, List.filter_append, h]
theorem selTo_no {p : Nat → Bool} {k : Nat} (h : p k = false) : selTo p (k + 1) = selTo p k := by simp [selTo, List.range_succ, List.filter_append, h]
theorem selTo_len {p : Nat → Bool} {k : Nat} : (selTo p k).length ≤ k := by
  unfold selTo
  rw [List.length_map]
  exact Nat.le_trans (List.length_filter_le _ _) (by simp)
theorem selTo_mem {p : Nat → Bool} {k : Nat} {x : Int} (h : x ∈ selTo p k) : ∃ i : Nat, x = i ∧ i < k ∧ p i = true := by
  simp only [selTo, List.mem_map, List.mem_filter, List.mem_range] at h
  obtain ⟨i, ⟨h1, h2⟩, rfl⟩ := h
  exact ⟨i, rfl, h1, h2⟩

/-- Whether heir 'from' has thing k first, and one of the two has a point for it. -/
def selB (r0 r1 : List Int) (fr : Int) (k : Nat) : Bool := decide ((if at0 r1 k ≤ at0 r0 k then (1 : Int) else 0) = 1 - fr) && decide (0 < at0 r0 k + at0 r1 k)
def tOrd (xss : List (Bool × List Int)) (fr : Int) : List Int := match xss with
  | [r0, r1] => if pointsB xss = true ∧ 0 ≤ fr ∧ fr ≤ 1 then isort (if fr = 0 then ratC r0.2 r1.2 else ratC r1.2 r0.2) (selTo (selB r0.2 r1.2 fr) r0.2.length) else []
  | _ => []
theorem tOrd_no {xss : List (Bool × List Int)} {fr : Int} (h : ¬ (pointsB xss = true ∧ 0 ≤ fr ∧ fr ≤ 1)) : tOrd xss fr = [] := by
  unfold tOrd; split
  · rw [if_neg h]
  · rfl
theorem tOrd_len {xss : List (Bool × List Int)} {fr : Int} : (tOrd xss fr).length ≤ 6 := by
  unfold tOrd
  split
  · rename_i r0 r1
    split
    · rename_i h
      have h1 := rect_len (points_facts h.1).2
      have h2 := selTo_len (p := selB r0.2 r1.2 fr) (k := r0.2.length)
      rw [isort_len]
      simp only [wid, List.headD_cons] at h1
      omega
    · simp
  · simp

end Go.Proofs.Ytlkgppincgpfjaa.Ax
