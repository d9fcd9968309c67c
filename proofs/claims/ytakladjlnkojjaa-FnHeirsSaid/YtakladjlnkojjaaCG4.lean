/-
  Contracts: comparisons of fractions (both programs); a ranking names every candidate. No condition.
-/
import Derived.Test.YtakladjlnkojjaaCG3
import Derived.Test.YtakladjlnkojjaaCG1
import Derived.Test.YtakladjlnkojjaaCG2
import Derived.Test.YtakladjlnkojjaaCB2
namespace Go.Proofs.Ytakladjlnkojjaa.Ax
open Go Go.RowKit
set_option linter.unusedSimpArgs false

def cmpI (x y : Int) : Int := if x < y then -1 else if y < x then 1 else 0
noncomputable def mCmpI : List AV → Option AV := mk (fun _ => True) (fun (p : (Int) × (Int)) => [int p.1, int p.2]) (fun p => int (cmpI p.1 p.2))
theorem mCmpI_at (x : Int) (y : Int) : mCmpI [.v (.int .i64 x), .v (.int .i64 y)] = some (.v (.int .i64 (cmpI x y))) :=
  mk_eq (enc := fun (p : (Int) × (Int)) => [int p.1, int p.2]) (x := (x, y)) (by rintro ⟨a0, a1⟩ ⟨b0, b1⟩ h; simp [ints, intss, int, bool, row, frac, fracs, map_int_inj, map_row_inj, frac_inj, map_frac_inj] at h; simp [h]) trivial
noncomputable def mNaN : List AV → Option AV := mk (fun _ => True) (fun (p : (Int)) => [int p]) (fun _ => bool false)
theorem mNaN_at (x : Int) : mNaN [.v (.int .i64 x)] = some (.v (.bool false)) :=
  mk_eq (enc := fun (p : (Int)) => [int p]) (x := (x)) (by rintro a0 b0 h; simp [ints, intss, int, bool, row, frac, fracs, map_int_inj, map_row_inj, frac_inj, map_frac_inj] at h; simp [h]) trivial
theorem isNaN_ok : FnOk Try.prog 99 mNaN := by
  refine mk_ok fun x _ => ?_
  have hG : FnsOk Try.prog [] := .nil
  refine callOk_awp (ctx_ok eqOk hG) mixed (live := [true, false, true]) (dt := []) Try.func99 rfl (by kernel_rfl) (by kernel_rfl) fun w0 hlens => ?_
  simp [Try.f99, List.range, List.range.loop, ints, intss, int, bool, row, frac, fracs, ← List.map_take, ← List.map_drop]
set_option maxHeartbeats 1000000 in
theorem cmpCompare_ok : FnOk Try.prog 93 mCmpI := by
  refine mk_ok fun ⟨x, y⟩ _ => ?_
  have hG : FnsOk Try.prog [(99, mNaN)] := (.cons isNaN_ok .nil)
  refine callOk_awp (ctx_ok eqOk hG) mixed (live := [true, true, false, false, true, true, true, false, false, false, false, true, true, true, false, false, true, false, false, true]) (dt := []) Try.func93 rfl (by kernel_rfl) (by kernel_rfl) fun w0 hlens => ?_
  by_cases h1 : x < y
  · simp [Try.f93, List.range, List.range.loop, ints, intss, int, bool, row, frac, fracs, ← List.map_take, ← List.map_drop, mNaN_at, h1, cmpI]
  · by_cases h2 : y < x <;> simp [Try.f93, List.range, List.range.loop, ints, intss, int, bool, row, frac, fracs, ← List.map_take, ← List.map_drop, mNaN_at, h1, h2, cmpI]

noncomputable def mCmpF : List AV → Option AV := mk (fun _ => True) (fun (p : (Int) × (Int) × (Int) × (Int)) => [frac (p.1, p.2.1), frac (p.2.2.1, p.2.2.2)]) (fun p => int (cmpF (p.1, p.2.1) (p.2.2.1, p.2.2.2)))
theorem mCmpF_at (a : Int) (b : Int) (c : Int) (d : Int) : mCmpF [.agg [.v (.int .i64 a), .v (.int .i64 b)], .agg [.v (.int .i64 c), .v (.int .i64 d)]] = some (.v (.int .i64 (cmpF (a, b) (c, d)))) :=
  mk_eq (enc := fun (p : (Int) × (Int) × (Int) × (Int)) => [frac (p.1, p.2.1), frac (p.2.2.1, p.2.2.2)]) (x := (a, b, c, d)) (by rintro ⟨a0, a1, a2, a3⟩ ⟨b0, b1, b2, b3⟩ h; simp [ints, intss, int, bool, row, frac, fracs, map_int_inj, map_row_inj, frac_inj, map_frac_inj] at h; simp [h]) trivial
noncomputable def mLessF : List AV → Option AV := mk (fun _ => True) (fun (p : (Int) × (Int) × (Int) × (Int)) => [frac (p.1, p.2.1), frac (p.2.2.1, p.2.2.2)]) (fun p => bool (decide (cmpF (p.1, p.2.1) (p.2.2.1, p.2.2.2) = -1)))
theorem mLessF_at (a : Int) (b : Int) (c : Int) (d : Int) : mLessF [.agg [.v (.int .i64 a), .v (.int .i64 b)], .agg [.v (.int .i64 c), .v (.int .i64 d)]] = some (.v (.bool (decide (cmpF (a, b) (c, d) = -1)))) :=
  mk_eq (enc := fun (p : (Int) × (Int) × (Int) × (Int)) => [frac (p.1, p.2.1), frac (p.2.2.1, p.2.2.2)]) (x := (a, b, c, d)) (by rintro ⟨a0, a1, a2, a3⟩ ⟨b0, b1, b2, b3⟩ h; simp [ints, intss, int, bool, row, frac, fracs, map_int_inj, map_row_inj, frac_inj, map_frac_inj] at h; simp [h]) trivial
theorem addF_frac {x y : Int × Int} (h : (addF x y).2 = true) : fracOk (addF x y).1 = true ∧ fracOk x = true ∧ fracOk y = true := by
  unfold addF mkF at h ⊢
  split
  · rename_i h1
    rw [if_pos h1] at h
    simp only [Bool.and_eq_true] at h1
    split
    · rename_i h2; exact ⟨h2, h1.1, h1.2⟩
    · rename_i h2; rw [if_neg h2] at h; simp at h
  · rename_i h1; rw [if_neg h1] at h; simp at h
theorem cmpF_neg {x y : Int × Int} (hx : fracOk x = true) (hy : fracOk y = true) : cmpF x y < 0 ↔ cmpF x y = -1 := by
  unfold cmpF; rw [hx, hy]
  simp only [Bool.and_true, if_true]
  split
  · simp
  · split <;> simp

theorem nodup_le : ∀ {L M : List Nat}, L.Nodup → (∀ x ∈ L, x ∈ M) → L.length ≤ M.length
  | [], _, _, _ => by simp
  | x :: L, M, h, hs => by
    rw [List.nodup_cons] at h
    have hx := hs x (by simp)
    have := nodup_le (L := L) (M := M.erase x) h.2 fun y hy => (List.mem_erase_of_ne (fun (e : y = x) => h.1 (by rw [← e]; exact hy))).2 (hs y (by simp [hy]))
    rw [List.length_erase_of_mem hx] at this
    have hp := List.length_pos_of_mem hx
    simp only [List.length_cons]; omega

theorem posFrom_iff {v : Int} : ∀ {xs : List Int} {k : Nat}, 0 ≤ posFrom v xs k ↔ v ∈ xs
  | [], k => by simp [posFrom]
  | x :: xs, k => by
    rw [posFrom]
    by_cases e : x = v
    · rw [if_pos e]; subst e; simp
    · rw [if_neg e, posFrom_iff, List.mem_cons]; exact ⟨.inr, fun h => h.resolve_left fun e' => e e'.symm⟩
theorem pos_iff {v : Int} {xs : List Int} : 0 ≤ pos xs v ↔ v ∈ xs := posFrom_iff

/-- What a valid ranking is. -/
theorem rank_facts {m : Int} {l : List Int} (h : rankB m l = true) : 1 ≤ m ∧ m ≤ 5 ∧ (l.length : Int) = m ∧ (∀ i (hi : i < l.length), 0 ≤ l[i] ∧ l[i] < m) ∧ l.Nodup := by
  simp only [rankB, Bool.and_eq_true, decide_eq_true_eq, inR] at h
  obtain ⟨⟨⟨h1, h2⟩, h3⟩, h4⟩ := h
  have hat : ∀ i (hi : i < l.length), (0 ≤ l[i] ∧ l[i] < m) ∧ l[i] ∉ l.take i := fun i hi => by
    have := List.all_eq_true.1 h4 i (by simpa using hi)
    rw [rankAt_at hi] at this
    simp only [Bool.and_eq_true, inR, decide_eq_true_eq, Bool.not_eq_true', decide_eq_false_iff_not, pos_iff] at this
    exact ⟨⟨this.1.1, by omega⟩, this.2⟩
  refine ⟨h1, h2, h3, fun i hi => (hat i hi).1, ?_⟩
  rw [List.nodup_iff_pairwise_ne, List.pairwise_iff_getElem]
  intro i j hi hj hij e
  exact (hat j hj).2 (List.mem_iff_getElem.2 ⟨i, by simp; omega, by rw [List.getElem_take]; exact e⟩)
/-- A ranking names every candidate. -/
theorem rank_all {m : Int} {l : List Int} (h : rankB m l = true) {i : Nat} (hi : (i : Int) < m) : ∃ k, ∃ hk : k < l.length, l[k] = i := by
  obtain ⟨h1, h2, h3, h4, h5⟩ := rank_facts h
  apply Classical.byContradiction
  intro hno
  have hin : ∀ x ∈ l, 0 ≤ x ∧ x < m := fun x hx => by
    obtain ⟨j, hj, rfl⟩ := List.getElem_of_mem hx; exact h4 j hj
  have hni : (i : Int) ∉ l := fun hx => by
    obtain ⟨j, hj, e⟩ := List.getElem_of_mem hx; exact hno ⟨j, hj, e⟩
  have hnd : (i :: l.map Int.toNat).Nodup := by
    rw [List.nodup_cons]
    refine ⟨fun hx => ?_, ?_⟩
    · obtain ⟨x, hx, e⟩ := List.mem_map.1 hx
      have := hin x hx
      exact hni (by rw [← e, Int.toNat_of_nonneg this.1]; exact hx)
    · rw [List.nodup_iff_pairwise_ne, List.pairwise_map]
      rw [List.nodup_iff_pairwise_ne] at h5
      refine List.Pairwise.imp_of_mem (fun {a b} ha hb hab e => hab ?_) h5
      have := hin a ha; have := hin b hb; omega
  have := nodup_le (M := List.range l.length) hnd fun x hx => by
    rw [List.mem_range]
    rcases List.mem_cons.1 hx with rfl | hx
    · omega
    · obtain ⟨y, hy, rfl⟩ := List.mem_map.1 hx
      have := hin y hy; omega
  simp at this
  omega

end Go.Proofs.Ytakladjlnkojjaa.Ax

/-
  The plain law of TransferOrder: an insertion from the right and one from the left put a number at the same place. No condition.
-/
namespace Go.Proofs.Ytakladjlnkojjaa.Ax
open Go Go.RowKit
set_option linter.unusedSimpArgs false

section
variable {c : Int → Int → Int} {le : Int → Int → Prop} {D : Int → Prop}

/-- Where x is put in, by the numbers that may stand ahead of it. -/
theorem ins_split (hc : ∀ x y, D x → D y → (c x y < 0 ↔ ¬ le y x)) (htr : ∀ x y z, D x → D y → D z → le x y → le y z → le x z) {ys : List Int} {x : Int} {k : Nat} (hD : ∀ y ∈ ys, D y) (hx : D x) (hs : ys.Pairwise le) (hk : k ≤ ys.length)
    (h1 : ∀ i (h : i < ys.length), i < k → le ys[i] x) (h2 : k = ys.length ∨ ∃ h : k < ys.length, ¬ le ys[k] x) : ins c ys x = ys.take k ++ x :: ys.drop k := by
  have key : ∀ m, k ≤ m → m ≤ ys.length → insFrom c ys x m = ys.take k ++ x :: ys.drop k := by
    intro m
    induction m with
    | zero => intro hkm _; obtain rfl : k = 0 := by omega
              simp [insFrom]
    | succ m ih =>
      intro hkm hml
      have hml' : m < ys.length := by omega
      have hg : ys.getD m 0 = ys[m] := by simp [List.getD_eq_getElem?_getD, hml']
      have hDm : D ys[m] := hD _ (List.getElem_mem _)
      by_cases e : k = m + 1
      · subst e
        have hle := h1 m hml' (by omega)
        rw [insFrom, hg, if_neg (fun h => ((hc x ys[m] hx hDm).1 h) hle)]
      · rw [insFrom, hg, if_pos, ih (by omega) (by omega)]
        refine (hc x ys[m] hx hDm).2 fun hle => ?_
        rcases h2 with h2 | ⟨hkl, h2⟩
        · omega
        · by_cases e2 : k = m
          · subst e2; exact h2 hle
          · exact h2 (htr _ _ _ (hD _ (List.getElem_mem _)) hDm hx (List.pairwise_iff_getElem.1 hs k m hkl hml' (by omega)) hle)
  exact key ys.length hk (Nat.le_refl _)

theorem split_at (le : Int → Int → Prop) (x : Int) : ∀ ys : List Int, ∃ k, k ≤ ys.length ∧ (∀ i (h : i < ys.length), i < k → le ys[i] x) ∧ (k = ys.length ∨ ∃ h : k < ys.length, ¬ le ys[k] x)
  | [] => ⟨0, by simp, fun i h => by simp at h, .inl rfl⟩
  | y :: ys => by
    by_cases hy : le y x
    · obtain ⟨k, h1, h2, h3⟩ := split_at le x ys
      refine ⟨k + 1, by simpa using h1, fun i h hi => ?_, ?_⟩
      · cases i with
        | zero => exact hy
        | succ i => exact h2 i (by simpa using h) (by omega)
      · rcases h3 with h3 | ⟨h3, h4⟩
        · left; simp [h3]
        · right; exact ⟨by simpa using h3, h4⟩
    · exact ⟨0, by simp, fun i _ hi => by omega, .inr ⟨by simp, hy⟩⟩

theorem ins_sorted (hc : ∀ x y, D x → D y → (c x y < 0 ↔ ¬ le y x)) (htr : ∀ x y z, D x → D y → D z → le x y → le y z → le x z) (hto : ∀ x y, D x → D y → ¬ le y x → le x y) {ys : List Int} {x : Int} (hD : ∀ y ∈ ys, D y) (hx : D x) (hs : ys.Pairwise le) : (ins c ys x).Pairwise le := by
  obtain ⟨k, h1, h2, h3⟩ := split_at le x ys
  rw [ins_split hc htr hD hx hs h1 h2 h3]
  have hkey : ∀ j (h : j < ys.length), k ≤ j → le x ys[j] := fun j hj hkj => by
    rcases h3 with h3 | ⟨hkl, h3⟩
    · omega
    · have hxk := hto _ _ hx (hD _ (List.getElem_mem hkl)) h3
      by_cases e : k = j
      · subst e; exact hxk
      · exact htr _ _ _ hx (hD _ (List.getElem_mem hkl)) (hD _ (List.getElem_mem hj)) hxk (List.pairwise_iff_getElem.1 hs k j hkl hj (by omega))
  rw [List.pairwise_append, List.pairwise_cons]
  refine ⟨hs.take, ⟨fun y hy => ?_, hs.drop⟩, fun a ha b hb => ?_⟩
  · obtain ⟨i, hi, rfl⟩ := List.getElem_of_mem hy
    rw [List.getElem_drop]
    exact hkey _ _ (by omega)
  · obtain ⟨i, hi, rfl⟩ := List.getElem_of_mem ha
    rw [List.getElem_take]
    have hik : i < k := by simp at hi; omega
    have hil : i < ys.length := by omega
    rcases List.mem_cons.1 hb with rfl | hb
    · exact h2 i hil hik
    · obtain ⟨j, hj, rfl⟩ := List.getElem_of_mem hb
      rw [List.getElem_drop]
      exact List.pairwise_iff_getElem.1 hs i (k + j) hil (by simp at hj; omega) (by omega)

theorem isort_sorted (hc : ∀ x y, D x → D y → (c x y < 0 ↔ ¬ le y x)) (htr : ∀ x y z, D x → D y → D z → le x y → le y z → le x z) (hto : ∀ x y, D x → D y → ¬ le y x → le x y) (xs : List Int) (hD : ∀ y ∈ xs, D y) : (isort c xs).Pairwise le := by
  unfold isort
  suffices h : ∀ (xs ys : List Int), (∀ y ∈ xs, D y) → (∀ y ∈ ys, D y) → ys.Pairwise le → (xs.foldl (ins c) ys).Pairwise le from h xs [] hD (by simp) .nil
  intro xs
  induction xs with
  | nil => intro ys _ _ h; exact h
  | cons x xs ih =>
    intro ys h1 h2 h3
    refine ih _ (fun y hy => h1 y (by simp [hy])) (fun y hy => ?_) (ins_sorted hc htr hto h2 (h1 x (by simp)) h3)
    rcases mem_insFrom.1 hy with rfl | hy
    · exact h1 _ (by simp)
    · exact h2 y hy
end

/-- Quotients compared; one by 0 is greater than all others. -/
def cmpR (a b c d : Int) : Int := if b = 0 ∨ d = 0 then IntKind.i64.wrap (cmpI d 0 - cmpI b 0) else cmpI (a * d) (c * b)
def ratC (u v : List Int) (x y : Int) : Int := cmpR (at0 u x.toNat) (at0 v x.toNat) (at0 u y.toNat) (at0 v y.toNat)
def leR (u v : List Int) (x y : Int) : Prop := at0 u x.toNat * at0 v y.toNat ≤ at0 u y.toNat * at0 v x.toNat
instance {u v : List Int} {x y : Int} : Decidable (leR u v x y) := by unfold leR; infer_instance
/-- Of the things of which one heir has a point at least. -/
def domR (u v : List Int) (x : Int) : Prop := 0 ≤ at0 u x.toNat ∧ 0 ≤ at0 v x.toNat ∧ 0 < at0 u x.toNat + at0 v x.toNat

theorem cmpI_neg {x y : Int} : cmpI x y < 0 ↔ x < y := by unfold cmpI; split <;> (try split) <;> omega
theorem ratC_neg {u v : List Int} {x y : Int} (hx : domR u v x) (hy : domR u v y) : ratC u v x y < 0 ↔ ¬ leR u v y x := by
  unfold ratC leR cmpR
  obtain ⟨a0, a1, a2⟩ := hx
  obtain ⟨b0, b1, b2⟩ := hy
  generalize at0 u x.toNat = a at *
  generalize at0 v x.toNat = b at *
  generalize at0 u y.toNat = c at *
  generalize at0 v y.toNat = d at *
  split
  · rename_i h
    have w1 : IntKind.i64.wrap (cmpI d 0 - cmpI b 0) = cmpI d 0 - cmpI b 0 := by
      unfold cmpI
      split <;> (try split) <;> (try split) <;> (try split) <;> exact wrapI (by omega) (by omega)
    rw [w1]
    by_cases hb : b = 0
    · subst hb
      by_cases hd : d = 0
      · subst hd; simp [cmpI]
      · have : 0 < d := by omega
        have h1 : ¬ d < 0 := by omega
        have hm : 0 ≤ a * d := Int.mul_nonneg a0 b1
        simp [cmpI, h1, this, hm]
    · obtain rfl : d = 0 := h.resolve_left hb
      have hb' : 0 < b := by omega
      have h1 : ¬ b < 0 := by omega
      have hc : 0 < c := by omega
      have := Int.mul_pos hc hb'
      simp [cmpI, h1, hb']
      omega
  · rw [cmpI_neg]; omega
theorem leR_trans {u v : List Int} {x y z : Int} (hx : domR u v x) (hy : domR u v y) (hz : domR u v z) (h1 : leR u v x y) (h2 : leR u v y z) : leR u v x z := by
  unfold leR at *
  obtain ⟨a0, a1, a2⟩ := hx
  obtain ⟨b0, b1, b2⟩ := hy
  obtain ⟨c0, c1, c2⟩ := hz
  generalize at0 u x.toNat = a at *
  generalize at0 v x.toNat = b at *
  generalize at0 u y.toNat = c at *
  generalize at0 v y.toNat = d at *
  generalize at0 u z.toNat = e at *
  generalize at0 v z.toNat = f at *
  by_cases hd : d = 0
  · subst hd
    have hc : 0 < c := by omega
    have hf : f = 0 := by
      have : c * f ≤ 0 := by simpa using h2
      rcases Int.lt_or_le 0 f with h | h
      · have := Int.mul_pos hc h; omega
      · omega
    subst hf
    have := Int.mul_nonneg c0 a1
    simpa using this
  · have hd' : 0 < d := by omega
    have k1 : a * d * f ≤ c * b * f := Int.mul_le_mul_of_nonneg_right h1 c1
    have k2 : c * f * b ≤ e * d * b := Int.mul_le_mul_of_nonneg_right h2 a1
    have k3 : (a * f) * d ≤ (e * b) * d := by
      have e1 : a * f * d = a * d * f := by rw [Int.mul_right_comm]
      have e2 : c * b * f = c * f * b := by rw [Int.mul_right_comm]
      have e3 : e * d * b = e * b * d := by rw [Int.mul_right_comm]
      omega
    exact Int.le_of_mul_le_mul_right k3 hd'
theorem leR_total {u v : List Int} {x y : Int} (h : ¬ leR u v y x) : leR u v x y := by unfold leR at *; omega

/-- The things that are chosen, up to k. -/
def selTo (p : Nat → Bool) (k : Nat) : List Int := ((List.range k).filter p).map fun (i : Nat) => (i : Int)
theorem selTo_zero {p : Nat → Bool} : selTo p 0 = [] := rfl
theorem selTo_yes {p : Nat → Bool} {k : Nat} (h : p k = true) : selTo p (k + 1) = selTo p k ++ [(k : Int)] := by simp [selTo, List.range_succ, List.filter_append, h]
theorem selTo_no {p : Nat → Bool} {k : Nat} (h : p k = false) : selTo p (k + 1) = selTo p k := by simp [selTo, List.range_succ, List.filter_append, h]
theorem selTo_len {p : Nat → Bool} {k : Nat} : (selTo p k).length ≤ k := by
  unfold selTo
  rw [List.length_map]
  exact Nat.le_trans (List.length_filter_le _ _) (by simp)
theorem selTo_mem {p : Nat → Bool} {k : Nat} {x : Int} (h : x ∈ selTo p k) : ∃ i : Nat, x = i ∧ i < k ∧ p i = true := by
  simp only [selTo, List.mem_map, List.mem_filter, List.mem_range] at h
  obtain ⟨i, ⟨h1, h2⟩, rfl⟩ := h
  exact ⟨i, rfl, h1, h2⟩

/-- Whether heir 'from' has thing k first, and one of the two has a point for it. -/
def selB (r0 r1 : List Int) (fr : Int) (k : Nat) : Bool := decide ((if at0 r1 k ≤ at0 r0 k then (1 : Int) else 0) = 1 - fr) && decide (0 < at0 r0 k + at0 r1 k)
def tOrd (xss : List (Bool × List Int)) (fr : Int) : List Int := match xss with
  | [r0, r1] => if pointsB xss = true ∧ 0 ≤ fr ∧ fr ≤ 1 then isort (if fr = 0 then ratC r0.2 r1.2 else ratC r1.2 r0.2) (selTo (selB r0.2 r1.2 fr) r0.2.length) else []
  | _ => []
theorem tOrd_no {xss : List (Bool × List Int)} {fr : Int} (h : ¬ (pointsB xss = true ∧ 0 ≤ fr ∧ fr ≤ 1)) : tOrd xss fr = [] := by
  unfold tOrd; split
  · rw [if_neg h]
  · rfl
theorem tOrd_len {xss : List (Bool × List Int)} {fr : Int} : (tOrd xss fr).length ≤ 6 := by
  unfold tOrd
  split
  · rename_i r0 r1
    split
    · rename_i h
      have h1 := rect_len (points_facts h.1).2
      have h2 := selTo_len (p := selB r0.2 r1.2 fr) (k := r0.2.length)
      rw [isort_len]
      simp only [wid, List.headD_cons] at h1
      omega
    · simp
  · simp

end Go.Proofs.Ytakladjlnkojjaa.Ax

/-
  Contracts: TransferOrder (the program). No condition.
-/
namespace Go.Proofs.Ytakladjlnkojjaa.Ax
open Go Go.RowKit
set_option linter.unusedSimpArgs false

noncomputable def mCmpR : List AV → Option AV := mk (fun p => (0 ≤ p.1 ∧ p.1 ≤ 100) ∧ (0 ≤ p.2.1 ∧ p.2.1 ≤ 100) ∧ (0 ≤ p.2.2.1 ∧ p.2.2.1 ≤ 100) ∧ (0 ≤ p.2.2.2 ∧ p.2.2.2 ≤ 100)) (fun (p : (Int) × (Int) × (Int) × (Int)) => [int p.1, int p.2.1, int p.2.2.1, int p.2.2.2]) (fun p => int (cmpR p.1 p.2.1 p.2.2.1 p.2.2.2))
theorem mCmpR_at (a : Int) (b : Int) (c : Int) (d : Int) (hpre : (0 ≤ a ∧ a ≤ 100) ∧ (0 ≤ b ∧ b ≤ 100) ∧ (0 ≤ c ∧ c ≤ 100) ∧ (0 ≤ d ∧ d ≤ 100)) : mCmpR [.v (.int .i64 a), .v (.int .i64 b), .v (.int .i64 c), .v (.int .i64 d)] = some (.v (.int .i64 (cmpR a b c d))) :=
  mk_eq (enc := fun (p : (Int) × (Int) × (Int) × (Int)) => [int p.1, int p.2.1, int p.2.2.1, int p.2.2.2]) (x := (a, b, c, d)) (by rintro ⟨a0, a1, a2, a3⟩ ⟨b0, b1, b2, b3⟩ h; simp [ints, intss, int, bool, row, frac, fracs, map_int_inj, map_row_inj, frac_inj, map_frac_inj] at h; simp [h]) hpre
set_option maxHeartbeats 1000000 in
theorem compareRatios_ok : FnOk Try.prog 70 mCmpR := by
  refine mk_ok fun ⟨a, b, c, d⟩ h => ?_
  obtain ⟨ha, hb, hc, hd⟩ := h
  simp only at ha hb hc hd
  have hG : FnsOk Try.prog [(93, mCmpI)] := (.cons cmpCompare_ok .nil)
  refine callOk_awp (ctx_ok eqOk hG) mixed (live := [true, true, true, true, false, false, false, false, true, false, false, false, false, false, true]) (dt := []) Try.func70 rfl (by kernel_rfl) (by kernel_rfl) fun w0 hlens => ?_
  have m1 := mul_bd (x := a) (y := d) (m := 100) (n := 100) (by omega) (by omega) (by omega) (by omega)
  have m2 := mul_bd (x := c) (y := b) (m := 100) (n := 100) (by omega) (by omega) (by omega) (by omega)
  have ww1 : IntKind.i64.wrap (a * d) = a * d := wrapI (by omega) (by omega)
  have w2 : IntKind.i64.wrap (c * b) = c * b := wrapI (by omega) (by omega)
  by_cases h1 : b = 0
  · have e : cmpR a b c d = IntKind.i64.wrap (cmpI d 0 - cmpI b 0) := by unfold cmpR; rw [if_pos (.inl h1)]
    rw [e]; subst h1
    simp (config := {contextual := true}) [Try.f70, List.range, List.range.loop, ints, intss, int, bool, row, frac, fracs, ← List.map_take, ← List.map_drop, mCmpI_at]
  · by_cases h2 : d = 0
    · have e : cmpR a b c d = IntKind.i64.wrap (cmpI d 0 - cmpI b 0) := by unfold cmpR; rw [if_pos (.inr h2)]
      rw [e]; subst h2
      simp (config := {contextual := true}) [Try.f70, List.range, List.range.loop, ints, intss, int, bool, row, frac, fracs, ← List.map_take, ← List.map_drop, mCmpI_at, h1]
    · have e : cmpR a b c d = cmpI (a * d) (c * b) := by unfold cmpR; rw [if_neg (fun h => h.elim h1 h2)]
      rw [e]
      simp (config := {contextual := true}) [Try.f70, List.range, List.range.loop, ints, intss, int, bool, row, frac, fracs, ← List.map_take, ← List.map_drop, mCmpI_at, h1, h2, ww1, w2]

/-- The slices that TransferOrder's closure holds. -/
def capR (u v : Bool × List Int) : List AV := [.fp (row u) 0, .fp (row v) 0]
theorem capR_pure {u v : Bool × List Int} : Pure (capR u v) := ⟨fun _ => rfl, rfl, fun _ => rfl⟩

theorem transfer1 (u v : Bool × List Int) (x y : Int) (hx : 0 ≤ x ∧ x.toNat < u.2.length ∧ x.toNat < v.2.length) (hy : 0 ≤ y ∧ y.toNat < u.2.length ∧ y.toNat < v.2.length) (hu : ∀ z ∈ u.2, 0 ≤ z ∧ z ≤ 100) (hv : ∀ z ∈ v.2, 0 ≤ z ∧ z ≤ 100) :
    CallOk Try.prog 69 (.v (.int .i64 x) :: .v (.int .i64 y) :: capR u v) (.v (.int .i64 (ratC u.2 v.2 x y))) := by
  have hG : FnsOk Try.prog [(70, mCmpR)] := (.cons compareRatios_ok .nil)
  refine callOk_awp (ctx_ok eqOk hG) mixed (live := [true, true, true, true, false, false, true]) (dt := [(1, ⟨[], [], []⟩)]) Try.func69 rfl (by kernel_rfl) (by kernel_rfl) fun w0 hlens => ?_
  obtain ⟨a, rfl⟩ : ∃ a : Nat, x = a := ⟨x.toNat, by omega⟩
  obtain ⟨b, rfl⟩ : ∃ b : Nat, y = b := ⟨y.toNat, by omega⟩
  simp only [Int.toNat_natCast] at hx hy
  have e1 : u.2[a]'hx.2.1 = at0 u.2 a := (at0_eq hx.2.1).symm
  have e2 : v.2[a]'hx.2.2 = at0 v.2 a := (at0_eq hx.2.2).symm
  have e3 : u.2[b]'hy.2.1 = at0 u.2 b := (at0_eq hy.2.1).symm
  have e4 : v.2[b]'hy.2.2 = at0 v.2 b := (at0_eq hy.2.2).symm
  have hm := mCmpR_at (at0 u.2 a) (at0 v.2 a) (at0 u.2 b) (at0 v.2 b) ⟨e1 ▸ hu _ (List.getElem_mem _), e2 ▸ hv _ (List.getElem_mem _), e3 ▸ hu _ (List.getElem_mem _), e4 ▸ hv _ (List.getElem_mem _)⟩
  simp (config := {contextual := true}) [Try.f69, List.range, List.range.loop, ints, intss, int, bool, row, frac, fracs, ← List.map_take, ← List.map_drop, capR, hx.2.1, hx.2.2, hy.2.1, hy.2.2, e1, e2, e3, e4, hm, ratC]

/-- A list that is nil until something is put into it, as row t. -/
def liA (t : Nat) : List Int → AV
  | [] => .sl true 1 []
  | _ :: l => .ref t [] 0 (l.length + 1)
def liT : List Int → List Tok
  | [] => []
  | x :: l => [⟨true, .sl false 1 ((x :: l).map int)⟩]

def liI (t : Nat) : List Int → Nat
  | [] => t
  | _ :: _ => t + 1
theorem liI_ne {t : Nat} {L : List Int} (h : L ≠ []) : liI t L = t + 1 := by cases L with | nil => exact (h rfl).elim | cons _ _ => rfl
theorem liA_ne {t : Nat} {L : List Int} (h : L ≠ []) : liA t L = .ref t [] 0 L.length := by cases L with | nil => exact (h rfl).elim | cons _ _ => rfl
theorem liT_ne {L : List Int} (h : L ≠ []) : liT L = [⟨true, .sl false 1 (L.map int)⟩] := by cases L with | nil => exact (h rfl).elim | cons _ _ => rfl

noncomputable def mTOi : List AV → Option AV := mk (fun _ => True) (fun (p : (Bool) × (List (Bool × List Int)) × (Int)) => [intss p.1 p.2.1, int p.2.2]) (fun p => .sl (tOrd p.2.1 p.2.2).isEmpty 1 ((tOrd p.2.1 p.2.2).map int))
theorem mTOi_at (nl : Bool) (xss : List (Bool × List Int)) (fr : Int) : mTOi [.sl nl 1 (xss.map row), .v (.int .i64 fr)] = some (.sl (tOrd xss fr).isEmpty 1 ((tOrd xss fr).map int)) :=
  mk_eq (enc := fun (p : (Bool) × (List (Bool × List Int)) × (Int)) => [intss p.1 p.2.1, int p.2.2]) (x := (nl, xss, fr)) (by rintro ⟨a0, a1, a2⟩ ⟨b0, b1, b2⟩ h; simp [ints, intss, int, bool, row, frac, fracs, map_int_inj, map_row_inj, frac_inj, map_frac_inj] at h; simp [h]) trivial

set_option maxRecDepth 8000 in
set_option maxHeartbeats 4000000 in
theorem transfer_run (nl : Bool) (r0 r1 u v : Bool × List Int) (fr : Int) (h1 : pointsB [r0, r1] = true) (hcase : (fr = 0 ∧ u = r0 ∧ v = r1) ∨ (fr = 1 ∧ u = r1 ∧ v = r0)) :
    CallOk Try.prog 28 [intss nl [r0, r1], int fr] (.sl (isort (ratC u.2 v.2) (selTo (selB r0.2 r1.2 fr) r0.2.length)).isEmpty 1 ((isort (ratC u.2 v.2) (selTo (selB r0.2 r1.2 fr) r0.2.length)).map int)) := by
  obtain ⟨h2, hr⟩ := points_facts h1
  have hl := rect_len hr
  have hr1 := rect_row hr (i := 1) (by simp)
  have hr0 := rect_row hr (i := 0) (by simp)
  simp only [wid, List.headD_cons] at hl hr1 hr0
  simp only [List.getElem_cons_succ, List.getElem_cons_zero] at hr1 hr0
  have hul : u.2.length = r0.2.length ∧ v.2.length = r0.2.length := by rcases hcase with ⟨_, rfl, rfl⟩ | ⟨_, rfl, rfl⟩ <;> omega
  have huv : (∀ z ∈ u.2, 0 ≤ z ∧ z ≤ 100) ∧ (∀ z ∈ v.2, 0 ≤ z ∧ z ≤ 100) := by rcases hcase with ⟨_, rfl, rfl⟩ | ⟨_, rfl, rfl⟩ <;> exact ⟨by first | exact hr0.2 | exact hr1.2, by first | exact hr0.2 | exact hr1.2⟩
  have hsum : ∀ k, at0 u.2 k + at0 v.2 k = at0 r0.2 k + at0 r1.2 k := fun k => by rcases hcase with ⟨_, rfl, rfl⟩ | ⟨_, rfl, rfl⟩ <;> omega
  have hfl : fr = 0 ∨ fr = 1 := by omega
  have hP := mPoints_at nl [r0, r1]
  rw [h1] at hP
  simp only [List.map_cons, List.map_nil, row] at hP
  have hW : mWithin [.v (.int .i64 fr), .v (.int .i64 0), .v (.int .i64 1)] = some (.v (.bool true)) := by
    rw [mWithin_in]; simp [inR]; omega
  have hF := mFirst_at nl [r0, r1]
  have hf : firstL [r0, r1] = fsA r0.2 r1.2 r0.2.length := by simp [firstL, h1]
  rw [hf] at hF
  simp only [h1, Bool.not_true, List.map_cons, List.map_nil, row] at hF
  generalize hL : selTo (selB r0.2 r1.2 fr) r0.2.length = L
  have hLl : L.length ≤ r0.2.length := by rw [← hL]; exact selTo_len
  have hLm : ∀ x ∈ L, 0 ≤ x ∧ x.toNat < u.2.length ∧ x.toNat < v.2.length := fun x hx => by
    rw [← hL] at hx
    obtain ⟨i, rfl, h, _⟩ := selTo_mem hx
    omega
  have hS := sort_ok (g := 69) (capR_pure (u := u) (v := v)) (ratC u.2 v.2) L.isEmpty L (by omega) (fun x hx y hy => transfer1 u v x y (hLm x hx) (hLm y hy) huv.1 huv.2)
  have hi : FnMut Try.prog 68 (mkM (fun _ : Unit => True) (fun _ => [ints L.isEmpty L, .fn 69 (capR u v)]) (fun _ => (0, .tup [], ints L.isEmpty (isort (ratC u.2 v.2) L)))) := mkM_ok fun _ _ => hS
  have hat : mkM (fun _ : Unit => True) (fun _ => [ints L.isEmpty L, .fn 69 (capR u v)]) (fun _ => (0, .tup [], ints L.isEmpty (isort (ratC u.2 v.2) L))) [.sl L.isEmpty 1 (L.map int), .fn 69 [.fp (.sl u.1 1 (u.2.map int)) 0, .fp (.sl v.1 1 (v.2.map int)) 0]] = some (0, .tup [], .sl L.isEmpty 1 ((isort (ratC u.2 v.2) L).map int)) := mkM_eq (enc := fun _ : Unit => [ints L.isEmpty L, .fn 69 (capR u v)]) (x := ()) (fun _ _ _ => rfl) trivial
  generalize mkM (fun _ : Unit => True) (fun _ => [ints L.isEmpty L, .fn 69 (capR u v)]) (fun _ => (0, AV.tup [], ints L.isEmpty (isort (ratC u.2 v.2) L))) = m at hi hat
  have hM : FnsMut Try.prog [(68, m)] := .cons hi .nil
  have hlen := isort_len (c := ratC u.2 v.2) L
  have hem : (isort (ratC u.2 v.2) L).isEmpty = L.isEmpty := by
    cases L <;> cases hz : isort (ratC u.2 v.2) _ <;> simp_all
  rw [hem]
  have ww1 : IntKind.i64.wrap 1 = 1 := by decide
  have ww0 : IntKind.i64.wrap 0 = 0 := by decide
  have hix : ∃ a b : Nat, fr = a ∧ 1 - fr = b ∧ a < 2 ∧ b < 2 ∧ [r0, r1][a]? = some u ∧ [r0, r1][b]? = some v := by
    rcases hcase with ⟨rfl, rfl, rfl⟩ | ⟨rfl, rfl, rfl⟩
    · exact ⟨0, 1, rfl, rfl, by omega, by omega, rfl, rfl⟩
    · exact ⟨1, 0, rfl, rfl, by omega, by omega, rfl, rfl⟩
  have hG : FnsOk Try.prog [(23, mPoints), (51, mWithin), (22, mFirst)] := (.cons implPointsOk_ok (.cons within_ok (.cons implFirst_ok .nil)))
  refine callOk_awp (ctxM_ok eqOk hG hM) mixed (live := [true, true, false, false, true, true, true, true, true, true, false, false, false, false, false, false, false, true, false, false, false, false, false, false, false, false, false, false, true, true, true, true, false, false, false, false, false, false, false, false, false, false, false, false, false, false, false, false, false, false, false, true]) (dt := [(3, ⟨[(6, 11), (7, 11), (8, 11)], [0, 0, 0, 0, 0, 0, 0, 0, 0, 1, 1], []⟩), (8, ⟨[], [], []⟩)]) Try.func28 rfl (by kernel_rfl) (by kernel_rfl) fun w0 hlens => ?_
  clear hlens
  have hs0 : selTo (selB r0.2 r1.2 fr) 0 = [] := rfl
  rcases hcase with ⟨rfl, rfl, rfl⟩ | ⟨rfl, rfl, rfl⟩
  · simp (config := {contextual := true}) [Try.f28, List.range, List.range.loop, ints, intss, int, bool, row, frac, fracs, ← List.map_take, ← List.map_drop, hP, hW, hF, ww0, ww1]
    refine awp_range (live := [true, true, false, false, true, true, true, true, true, true, false, false, false, false, false, false, false, true, false, false, false, false, false, false, false, false, false, false, true, true, true, true, false, false, false, false, false, false, false, false, false, false, false, false, false, false, false, false, false, false, false, true]) (ctxM_ok eqOk hG hM) mixed [false, true, false, false, false, true, true, true, false, false, false, false, false, false, false, false, false, false, false, false, false, false, false, false, false, false, false, false, true, true, true] (u.2.length) (fun k => True) (fun k => ⟨[.junk, int 0, .junk, .junk, .junk, .ptr 0 [] 0 0, .ptr 1 [] 0 0, liA 2 (selTo (selB u.2 v.2 0) k), .junk, .junk, .junk, .junk, .junk, .junk, .junk, .junk, .junk, .junk, .junk, .junk, .junk, .junk, .junk, .junk, .junk, .junk, .junk, .junk, .ref (liI 2 (selTo (selB u.2 v.2 0) k)) [] 0 u.2.length, int u.2.length, int k, .junk, .junk, .junk, .junk, .junk, .junk, .junk, .junk, .junk, .junk, .junk, .junk, .junk, .junk, .junk, .junk, .junk, .junk, .junk, .junk, .junk, .junk, .junk, .junk, .junk, .junk, .junk, .junk, .junk, .junk], [⟨false, .sl false 1 [.sl u.1 1 (u.2.map int)]⟩, ⟨false, .sl false 1 [.sl v.1 1 (v.2.map int)]⟩] ++ liT (selTo (selB u.2 v.2 0) k) ++ [⟨true, .sl false 2 ((fsA u.2 v.2 u.2.length).map frac)⟩]⟩) ?_ (by simp [sub, slotsLe, clean, keep, refsL, refs, once, place, renL, ren, List.replicate, int, bool, hs0, liA, liT, liI, fsA_len]) ?_ ?_ ?_
    · omega
    · trivial
    · intro k hk _ hwk
      have hku : k < u.2.length := by omega
      have hkv : k < v.2.length := by omega
      have a1 : u.2[k] = at0 u.2 k := (at0_eq hku).symm
      have a2 : v.2[k] = at0 v.2 k := (at0_eq hkv).symm
      have b1 := huv.1 _ (List.getElem_mem hku)
      have b2 := huv.2 _ (List.getElem_mem hkv)
      have hw3 : IntKind.i64.wrap (at0 u.2 k + at0 v.2 k) = at0 u.2 k + at0 v.2 k := wrapI (by omega) (by omega)
      have hfk : (fsA u.2 v.2 u.2.length)[k]'(by rw [fsA_len]; exact hk) = (if at0 v.2 k ≤ at0 u.2 k then 1 else 0, 1) := by simp [fsA, fshare]
      have hsl := selTo_len (p := selB u.2 v.2 0) (k := k)
      have hy := selTo_yes (p := selB u.2 v.2 0) (k := k)
      have hn := selTo_no (p := selB u.2 v.2 0) (k := k)
      have hB : selB u.2 v.2 0 k = (decide ((if at0 v.2 k ≤ at0 u.2 k then (1 : Int) else 0) = 1 - 0) && decide (0 < at0 u.2 k + at0 v.2 k)) := by rw [hsum k]; rfl
      generalize selTo (selB u.2 v.2 0) k = L0 at hy hn hsl ⊢
      have hsz : (L0.length + 1) * 8 ≤ 140737488355328 ∧ L0.length + 1 ≤ 4611686018427387904 := by omega
      generalize selB u.2 v.2 0 k = bb at hy hn hB
      by_cases c1 : at0 v.2 k ≤ at0 u.2 k <;> by_cases c2 : 0 < at0 u.2 k + at0 v.2 k <;> simp [c1, c2] at hB <;> subst hB <;> (first | rw [hy rfl] | rw [hn rfl])
      all_goals clear hy hn
      all_goals cases L0
      all_goals simp only [List.length_cons, List.length_nil] at hsl hsz
      all_goals simp (config := {contextual := true}) [List.range, List.range.loop, ints, intss, int, bool, row, frac, fracs, ← List.map_take, ← List.map_drop, liA, liT, liI, hk, hku, hkv, a1, a2, hw3, hfk, c1, c2, hwk, ww0, ww1, fsA_len, hsz]
    · intro _
      rw [hL]
      by_cases hL0 : L = []
      · subst hL0
        simp only [List.isEmpty_nil, List.map_nil] at hat
        have hi0 : isort (ratC u.2 v.2) [] = [] := rfl
        rw [hi0] at hat
        simp (config := {contextual := true}) [List.range, List.range.loop, ints, intss, int, bool, row, frac, fracs, ← List.map_take, ← List.map_drop, List.eraseIdx, liA, liT, liI, hat, fsA_len, hi0]
      · have hie : L.isEmpty = false := by cases L with | nil => exact (hL0 rfl).elim | cons _ _ => rfl
        rw [hie] at hat ⊢
        simp (config := {contextual := true}) [List.range, List.range.loop, ints, intss, int, bool, row, frac, fracs, ← List.map_take, ← List.map_drop, List.eraseIdx, liA_ne hL0, liT_ne hL0, liI_ne hL0, hat, fsA_len, hlen]
  · simp (config := {contextual := true}) [Try.f28, List.range, List.range.loop, ints, intss, int, bool, row, frac, fracs, ← List.map_take, ← List.map_drop, hP, hW, hF, ww0, ww1]
    refine awp_range (live := [true, true, false, false, true, true, true, true, true, true, false, false, false, false, false, false, false, true, false, false, false, false, false, false, false, false, false, false, true, true, true, true, false, false, false, false, false, false, false, false, false, false, false, false, false, false, false, false, false, false, false, true]) (ctxM_ok eqOk hG hM) mixed [false, true, false, false, false, true, true, true, false, false, false, false, false, false, false, false, false, false, false, false, false, false, false, false, false, false, false, false, true, true, true] (v.2.length) (fun k => True) (fun k => ⟨[.junk, int 1, .junk, .junk, .junk, .ptr 0 [] 0 0, .ptr 1 [] 0 0, liA 2 (selTo (selB v.2 u.2 1) k), .junk, .junk, .junk, .junk, .junk, .junk, .junk, .junk, .junk, .junk, .junk, .junk, .junk, .junk, .junk, .junk, .junk, .junk, .junk, .junk, .ref (liI 2 (selTo (selB v.2 u.2 1) k)) [] 0 v.2.length, int v.2.length, int k, .junk, .junk, .junk, .junk, .junk, .junk, .junk, .junk, .junk, .junk, .junk, .junk, .junk, .junk, .junk, .junk, .junk, .junk, .junk, .junk, .junk, .junk, .junk, .junk, .junk, .junk, .junk, .junk, .junk, .junk], [⟨false, .sl false 1 [.sl u.1 1 (u.2.map int)]⟩, ⟨false, .sl false 1 [.sl v.1 1 (v.2.map int)]⟩] ++ liT (selTo (selB v.2 u.2 1) k) ++ [⟨true, .sl false 2 ((fsA v.2 u.2 v.2.length).map frac)⟩]⟩) ?_ (by simp [sub, slotsLe, clean, keep, refsL, refs, once, place, renL, ren, List.replicate, int, bool, hs0, liA, liT, liI, fsA_len]) ?_ ?_ ?_
    · omega
    · trivial
    · intro k hk _ hwk
      have hku : k < u.2.length := by omega
      have hkv : k < v.2.length := by omega
      have a1 : u.2[k] = at0 u.2 k := (at0_eq hku).symm
      have a2 : v.2[k] = at0 v.2 k := (at0_eq hkv).symm
      have b1 := huv.1 _ (List.getElem_mem hku)
      have b2 := huv.2 _ (List.getElem_mem hkv)
      have hw3 : IntKind.i64.wrap (at0 u.2 k + at0 v.2 k) = at0 u.2 k + at0 v.2 k := wrapI (by omega) (by omega)
      have hfk : (fsA v.2 u.2 v.2.length)[k]'(by rw [fsA_len]; exact hk) = (if at0 u.2 k ≤ at0 v.2 k then 1 else 0, 1) := by simp [fsA, fshare]
      have hsl := selTo_len (p := selB v.2 u.2 1) (k := k)
      have hy := selTo_yes (p := selB v.2 u.2 1) (k := k)
      have hn := selTo_no (p := selB v.2 u.2 1) (k := k)
      have hB : selB v.2 u.2 1 k = (decide ((if at0 u.2 k ≤ at0 v.2 k then (1 : Int) else 0) = 1 - 1) && decide (0 < at0 u.2 k + at0 v.2 k)) := by rw [hsum k]; rfl
      generalize selTo (selB v.2 u.2 1) k = L0 at hy hn hsl ⊢
      have hsz : (L0.length + 1) * 8 ≤ 140737488355328 ∧ L0.length + 1 ≤ 4611686018427387904 := by omega
      generalize selB v.2 u.2 1 k = bb at hy hn hB
      by_cases c1 : at0 u.2 k ≤ at0 v.2 k <;> by_cases c2 : 0 < at0 u.2 k + at0 v.2 k <;> simp [c1, c2] at hB <;> subst hB <;> (first | rw [hy rfl] | rw [hn rfl])
      all_goals clear hy hn
      all_goals cases L0
      all_goals simp only [List.length_cons, List.length_nil] at hsl hsz
      all_goals simp (config := {contextual := true}) [List.range, List.range.loop, ints, intss, int, bool, row, frac, fracs, ← List.map_take, ← List.map_drop, liA, liT, liI, hk, hku, hkv, a1, a2, hw3, hfk, c1, c2, hwk, ww0, ww1, fsA_len, hsz]
    · intro _
      rw [hL]
      by_cases hL0 : L = []
      · subst hL0
        simp only [List.isEmpty_nil, List.map_nil] at hat
        have hi0 : isort (ratC u.2 v.2) [] = [] := rfl
        rw [hi0] at hat
        simp (config := {contextual := true}) [List.range, List.range.loop, ints, intss, int, bool, row, frac, fracs, ← List.map_take, ← List.map_drop, List.eraseIdx, liA, liT, liI, hat, fsA_len, hi0]
      · have hie : L.isEmpty = false := by cases L with | nil => exact (hL0 rfl).elim | cons _ _ => rfl
        rw [hie] at hat ⊢
        simp (config := {contextual := true}) [List.range, List.range.loop, ints, intss, int, bool, row, frac, fracs, ← List.map_take, ← List.map_drop, List.eraseIdx, liA_ne hL0, liT_ne hL0, liI_ne hL0, hat, fsA_len, hlen]

theorem implTransfer_ok : FnOk Try.prog 28 mTOi := by
  refine mk_ok fun ⟨nl, xss, fr⟩ _ => ?_
  by_cases hc : pointsB xss = true ∧ 0 ≤ fr ∧ fr ≤ 1
  · obtain ⟨h1, hf0, hf1⟩ := hc
    obtain ⟨h2, hr⟩ := points_facts h1
    obtain ⟨r0, r1, rfl⟩ : ∃ r0 r1, xss = [r0, r1] := by
      match xss, h2 with
      | [a, b], _ => exact ⟨a, b, rfl⟩
    by_cases h0 : fr = 0
    · subst h0
      have := transfer_run nl r0 r1 r0 r1 0 h1 (.inl ⟨rfl, rfl, rfl⟩)
      have e : tOrd [r0, r1] 0 = isort (ratC r0.2 r1.2) (selTo (selB r0.2 r1.2 0) r0.2.length) := by simp [tOrd, h1]
      simp only [e]; exact this
    · obtain rfl : fr = 1 := by omega
      have := transfer_run nl r0 r1 r1 r0 1 h1 (.inr ⟨rfl, rfl, rfl⟩)
      have e : tOrd [r0, r1] 1 = isort (ratC r1.2 r0.2) (selTo (selB r0.2 r1.2 1) r0.2.length) := by simp [tOrd, h1]
      simp only [e]; exact this
  · simp only [tOrd_no hc, List.isEmpty_nil, List.map_nil]
    have hG : FnsOk Try.prog [(23, mPoints), (51, mWithin), (22, mFirst)] := (.cons implPointsOk_ok (.cons within_ok (.cons implFirst_ok .nil)))
    refine callOk_awp (ctx_ok eqOk hG) mixed (live := [true, true, false, false, true, true, true, true, true, true, false, false, false, false, false, false, false, true, false, false, false, false, false, false, false, false, false, false, true, true, true, true, false, false, false, false, false, false, false, false, false, false, false, false, false, false, false, false, false, false, false, true]) (dt := [(3, ⟨[(6, 11), (7, 11), (8, 11)], [0, 0, 0, 0, 0, 0, 0, 0, 0, 1, 1], []⟩), (8, ⟨[], [], []⟩)]) Try.func28 rfl (by kernel_rfl) (by kernel_rfl) fun w0 hlens => ?_
    cases h1 : pointsB xss with
    | false => simp (config := {contextual := true}) [Try.f28, List.range, List.range.loop, ints, intss, int, bool, row, frac, fracs, ← List.map_take, ← List.map_drop, mPoints_at, h1]
    | true =>
      have hin : inR 0 1 fr = false := by
        simp only [inR, Bool.and_eq_false_iff, decide_eq_false_iff_not]
        by_cases h : 0 ≤ fr
        · exact .inr fun h' => hc ⟨h1, h, h'⟩
        · exact .inl h
      simp (config := {contextual := true}) [Try.f28, List.range, List.range.loop, ints, intss, int, bool, row, frac, fracs, ← List.map_take, ← List.map_drop, mPoints_at, mWithin_in, h1, hin]

end Go.Proofs.Ytakladjlnkojjaa.Ax

/-
  Contracts: TransferOrder (the reference). No condition.
-/
namespace Go.Proofs.Ytakladjlnkojjaa.Ax
open Go Go.RowKit
set_option linter.unusedSimpArgs false

noncomputable def mTOs : List AV → Option AV := mk (fun _ => True) (fun (p : (Bool) × (List (Bool × List Int)) × (Int)) => [intss p.1 p.2.1, int p.2.2]) (fun p => .sl (!(pointsB p.2.1 && inR 0 1 p.2.2)) 1 ((tOrd p.2.1 p.2.2).map int))
theorem mTOs_at (nl : Bool) (xss : List (Bool × List Int)) (fr : Int) : mTOs [.sl nl 1 (xss.map row), .v (.int .i64 fr)] = some (.sl (!(pointsB xss && inR 0 1 fr)) 1 ((tOrd xss fr).map int)) :=
  mk_eq (enc := fun (p : (Bool) × (List (Bool × List Int)) × (Int)) => [intss p.1 p.2.1, int p.2.2]) (x := (nl, xss, fr)) (by rintro ⟨a0, a1, a2⟩ ⟨b0, b1, b2⟩ h; simp [ints, intss, int, bool, row, frac, fracs, map_int_inj, map_row_inj, frac_inj, map_frac_inj] at h; simp [h]) trivial

theorem selTo_dom {u v : List Int} {p : Nat → Bool} {k : Nat} (hu : ∀ z ∈ u, 0 ≤ z ∧ z ≤ 100) (hv : ∀ z ∈ v, 0 ≤ z ∧ z ≤ 100) (hk : k ≤ u.length) (hk2 : k ≤ v.length) (hp : ∀ i, i < k → p i = true → 0 < at0 u i + at0 v i) : ∀ y ∈ selTo p k, domR u v y := fun y hy => by
  obtain ⟨i, rfl, h1, h2⟩ := selTo_mem hy
  have e1 := at0_eq (xs := u) (i := i) (by omega)
  have e2 := at0_eq (xs := v) (i := i) (by omega)
  exact ⟨by rw [Int.toNat_natCast, e1]; exact (hu _ (List.getElem_mem _)).1, by rw [Int.toNat_natCast, e2]; exact (hv _ (List.getElem_mem _)).1, by rw [Int.toNat_natCast]; exact hp i h1 h2⟩

end Go.Proofs.Ytakladjlnkojjaa.Ax

/-
  Contracts: LotteryOk (both programs). No condition.
-/
namespace Go.Proofs.Ytakladjlnkojjaa.Ax
open Go Go.RowKit
set_option linter.unusedSimpArgs false

/-- Fractions come to 1. -/
def wholeB (fs : List (Int × Int)) : Bool := (sumF fs).2 && decide ([(sumF fs).1.1, (sumF fs).1.2] = [1, 1])
noncomputable def mWholeB : List AV → Option AV := mk (fun _ => True) (fun (p : (Bool) × (List (Int × Int))) => [fracs p.1 p.2]) (fun p => bool (wholeB p.2))
theorem mWholeB_at (nl : Bool) (fs : List (Int × Int)) : mWholeB [.sl nl 2 (fs.map frac)] = some (.v (.bool (wholeB fs))) :=
  mk_eq (enc := fun (p : (Bool) × (List (Int × Int))) => [fracs p.1 p.2]) (x := (nl, fs)) (by rintro ⟨a0, a1⟩ ⟨b0, b1⟩ h; simp [ints, intss, int, bool, row, frac, fracs, map_int_inj, map_row_inj, frac_inj, map_frac_inj] at h; simp [h]) trivial

/-- Column k of the first j rows. -/
def colTo (m : List (Bool × List (Int × Int))) (k j : Nat) : List (Int × Int) := (m.take j).map fun r => r.2.getD k (0, 0)
theorem colTo_zero {m : List (Bool × List (Int × Int))} {k : Nat} : colTo m k 0 = [] := by simp [colTo]
theorem colTo_len {m : List (Bool × List (Int × Int))} {k j : Nat} (h : j ≤ m.length) : (colTo m k j).length = j := by simp [colTo]; omega
theorem colTo_succ {m : List (Bool × List (Int × Int))} {k j : Nat} (h : j < m.length) (hk : k < m[j].2.length) : (colTo m k j).map frac ++ [.agg [.v (.int .i64 m[j].2[k].1), .v (.int .i64 m[j].2[k].2)]] = (colTo m k (j + 1)).map frac := by
  unfold colTo
  rw [List.take_succ_eq_append_getElem h]
  simp only [List.map_append, List.map_cons, List.map_nil]
  congr 1
  simp [frac, List.getD_eq_getElem?_getD, hk]
def partRow (m : List (Bool × List (Int × Int))) (i : Nat) : Bool := decide ((m.getD i (true, [])).2.length = m.length) && (m.getD i (true, [])).2.all partB
def sumRow (m : List (Bool × List (Int × Int))) (k : Nat) : Bool := wholeB (m.getD k (true, [])).2 && wholeB (colTo m k m.length)
def lotB (m : List (Bool × List (Int × Int))) : Bool := inR 1 4 m.length && allR m.length (partRow m) && allR m.length (sumRow m)
theorem getDF {m : List (Bool × List (Int × Int))} {i : Nat} (h : i < m.length) : m.getD i (true, []) = m[i] := by simp [List.getD_eq_getElem?_getD, h]

noncomputable def mLot : List AV → Option AV := mk (fun _ => True) (fun (p : Bool × List (Bool × List (Int × Int))) => [fracss p.1 p.2]) (fun p => bool (lotB p.2))
theorem mLot_at (nl : Bool) (m : List (Bool × List (Int × Int))) : mLot [.sl nl 1 (m.map frow)] = some (.v (.bool (lotB m))) :=
  mk_eq (enc := fun (p : Bool × List (Bool × List (Int × Int))) => [fracss p.1 p.2]) (x := (nl, m)) (by rintro ⟨a, b⟩ ⟨c, d⟩ h; simp [fracss, map_frow_inj] at h; simp [h]) trivial

end Go.Proofs.Ytakladjlnkojjaa.Ax
