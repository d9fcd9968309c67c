/-
  The plain law of TransferOrder: an insertion from the right and one from the left put a number at the same place. No condition.
-/
import Derived.Test.YtiieikknhheffaaDoorCG1
import Derived.Test.YtiieikknhheffaaDoorCG2
import Derived.Test.YtiieikknhheffaaDoorCB1
import Derived.Test.YtiieikknhheffaaDoorCK4
import Derived.Ground.NamesProg
import Derived.Shelf.LaysM
import Derived.Shelf.Strconv.Itoa3
namespace Go.Proofs.YtiieikknhheffaaDoor.Ax
open Go Go.RowKit
set_option linter.unusedSimpArgs false

section
variable {c : Int → Int → Int} {le : Int → Int → Prop} {D : Int → Prop}

/-- Where x is put in, by the numbers that may stand ahead of it. -/
theorem ins_split (hc : ∀ x y, D x → D y → (c x y < 0 ↔ ¬ le y x)) (htr : ∀ x y z, D x → D y → D z → le x y → le y z → le x z) {ys : List Int} {x : Int} {k : Nat} (hD : ∀ y ∈ ys, D y) (hx : D x) (hs : ys.Pairwise le) (hk : k ≤ ys.length)
    (h1 : ∀ i (h : i < ys.length), i < k → le ys[i] x) (h2 : k = ys.length ∨ ∃ h : k < ys.length, ¬ le ys[k] x) : ins c ys x = ys.take k ++ x :: ys.drop k := by
  have key : ∀ m, k ≤ m → m ≤ ys.length → insFrom c ys x m = ys.take k ++ x :: ys.drop k := by
    intro m
    induction m with
    | zero => intro hkm _; obtain rfl : k = 0 := by omega
              simp [insFrom]
    | succ m ih =>
      intro hkm hml
      have hml' : m < ys.length := by omega
      have hg : ys.getD m 0 = ys[m] := by simp [List.getD_eq_getElem?_getD, hml']
      have hDm : D ys[m] := hD _ (List.getElem_mem _)
      by_cases e : k = m + 1
      · subst e
        have hle := h1 m hml' (by omega)
        rw [insFrom, hg, if_neg (fun h => ((hc x ys[m] hx hDm).1 h) hle)]
      · rw [insFrom, hg, if_pos, ih (by omega) (by omega)]
        refine (hc x ys[m] hx hDm).2 fun hle => ?_
        rcases h2 with h2 | ⟨hkl, h2⟩
        · omega
        · by_cases e2 : k = m
          · subst e2; exact h2 hle
          · exact h2 (htr _ _ _ (hD _ (List.getElem_mem _)) hDm hx (List.pairwise_iff_getElem.1 hs k m hkl hml' (by omega)) hle)
  exact key ys.length hk (Nat.le_refl _)

theorem split_at (le : Int → Int → Prop) (x : Int) : ∀ ys : List Int, ∃ k, k ≤ ys.length ∧ (∀ i (h : i < ys.length), i < k → le ys[i] x) ∧ (k = ys.length ∨ ∃ h : k < ys.length, ¬ le ys[k] x)
  | [] => ⟨0, by simp, fun i h => by simp at h, .inl rfl⟩
  | y :: ys => by
    by_cases hy : le y x
    · obtain ⟨k, h1, h2, h3⟩ := split_at le x ys
      refine ⟨k + 1, by simpa using h1, fun i h hi => ?_, ?_⟩
      · cases i with
        | zero => exact hy
        | succ i => exact h2 i (by simpa using h) (by omega)
      · rcases h3 with h3 | ⟨h3, h4⟩
        · left; simp [h3]
        · right; exact ⟨by simpa using h3, h4⟩
    · exact ⟨0, by simp, fun i _ hi => by omega, .inr ⟨by simp, hy⟩⟩

theorem ins_sorted (hc : ∀ x y, D x → D y → (c x y < 0 ↔ ¬ le y x)) (htr : ∀ x y z, D x → D y → D z → le x y → le y z → le x z) (hto : ∀ x y, D x → D y → ¬ le y x → le x y) {ys : List Int} {x : Int} (hD : ∀ y ∈ ys, D y) (hx : D x) (hs : ys.Pairwise le) : (ins c ys x).Pairwise le := by
  obtain ⟨k, h1, h2, h3⟩ := split_at le x ys
  rw [ins_split hc htr hD hx hs h1 h2 h3]
  have hkey : ∀ j (h : j < ys.length), k ≤ j → le x ys[j] := fun j hj hkj => by
    rcases h3 with h3 | ⟨hkl, h3⟩
    · omega
    · have hxk := hto _ _ hx (hD _ (List.getElem_mem hkl)) h3
      by_cases e : k = j
      · subst e; exact hxk
      · exact htr _ _ _ hx (hD _ (List.getElem_mem hkl)) (hD _ (List.getElem_mem hj)) hxk (List.pairwise_iff_getElem.1 hs k j hkl hj (by omega))
  rw [List.pairwise_append, List.pairwise_cons]
  refine ⟨hs.take, ⟨fun y hy => ?_, hs.drop⟩, fun a ha b hb => ?_⟩
  · obtain ⟨i, hi, rfl⟩ := List.getElem_of_mem hy
    rw [List.getElem_drop]
    exact hkey _ _ (by omega)
  · obtain ⟨i, hi, rfl⟩ := List.getElem_of_mem ha
    rw [List.getElem_take]
    have hik : i < k := by simp at hi; omega
    have hil : i < ys.length := by omega
    rcases List.mem_cons.1 hb with rfl | hb
    · exact h2 i hil hik
    · obtain ⟨j, hj, rfl⟩ := List.getElem_of_mem hb
      rw [List.getElem_drop]
      exact List.pairwise_iff_getElem.1 hs i (k + j) hil (by simp at hj; omega) (by omega)

theorem isort_sorted (hc : ∀ x y, D x → D y → (c x y < 0 ↔ ¬ le y x)) (htr : ∀ x y z, D x → D y → D z → le x y → le y z → le x z) (hto : ∀ x y, D x → D y → ¬ le y x → le x y) (xs : List Int) (hD : ∀ y ∈ xs, D y) : (isort c xs).Pairwise le := by
  unfold isort
  suffices h : ∀ (xs ys : List Int), (∀ y ∈ xs, D y) → (∀ y ∈ ys, D y) → ys.Pairwise le → (xs.foldl (ins c) ys).Pairwise le from h xs [] hD (by simp) .nil
  intro xs
  induction xs with
  | nil => intro ys _ _ h; exact h
  | cons x xs ih =>
    intro ys h1 h2 h3
    refine ih _ (fun y hy => h1 y (by simp [hy])) (fun y hy => ?_) (ins_sorted hc htr hto h2 (h1 x (by simp)) h3)
    rcases mem_insFrom.1 hy with rfl | hy
    · exact h1 _ (by simp)
    · exact h2 y hy
end

/-- Quotients compared; one by 0 is greater than all others. -/
def cmpR (a b c d : Int) : Int := if b = 0 ∨ d = 0 then IntKind.i64.wrap (cmpI d 0 - cmpI b 0) else cmpI (a * d) (c * b)
def ratC (u v : List Int) (x y : Int) : Int := cmpR (at0 u x.toNat) (at0 v x.toNat) (at0 u y.toNat) (at0 v y.toNat)
def leR (u v : List Int) (x y : Int) : Prop := at0 u x.toNat * at0 v y.toNat ≤ at0 u y.toNat * at0 v x.toNat
instance {u v : List Int} {x y : Int} : Decidable (leR u v x y) := by unfold leR; infer_instance
/-- Of the things of which one heir has a point at least. -/
def domR (u v : List Int) (x : Int) : Prop := 0 ≤ at0 u x.toNat ∧ 0 ≤ at0 v x.toNat ∧ 0 < at0 u x.toNat + at0 v x.toNat

theorem cmpI_neg {x y : Int} : cmpI x y < 0 ↔ x < y := by unfold cmpI; split <;> (try split) <;> omega
theorem ratC_neg {u v : List Int} {x y : Int} (hx : domR u v x) (hy : domR u v y) : ratC u v x y < 0 ↔ ¬ leR u v y x := by
  unfold ratC leR cmpR
  obtain ⟨a0, a1, a2⟩ := hx
  obtain ⟨b0, b1, b2⟩ := hy
  generalize at0 u x.toNat = a at *
  generalize at0 v x.toNat = b at *
  generalize at0 u y.toNat = c at *
  generalize at0 v y.toNat = d at *
  split
  · rename_i h
    have w1 : IntKind.i64.wrap (cmpI d 0 - cmpI b 0) = cmpI d 0 - cmpI b 0 := by
      unfold cmpI
      split <;> (try split) <;> (try split) <;> (try split) <;> exact wrapI (by omega) (by omega)
    rw [w1]
    by_cases hb : b = 0
    · subst hb
      by_cases hd : d = 0
      · subst hd; simp [cmpI]
      · have : 0 < d := by omega
        have h1 : ¬ d < 0 := by omega
        have hm : 0 ≤ a * d := Int.mul_nonneg a0 b1
        simp [cmpI, h1, this, hm]
    · obtain rfl : d = 0 := h.resolve_left hb
      have hb' : 0 < b := by omega
      have h1 : ¬ b < 0 := by omega
      have hc : 0 < c := by omega
      have := Int.mul_pos hc hb'
      simp [cmpI, h1, hb']
      omega
  · rw [cmpI_neg]; omega
theorem leR_trans {u v : List Int} {x y z : Int} (hx : domR u v x) (hy : domR u v y) (hz : domR u v z) (h1 : leR u v x y) (h2 : leR u v y z) : leR u v x z := by
  unfold leR at *
  obtain ⟨a0, a1, a2⟩ := hx
  obtain ⟨b0, b1, b2⟩ := hy
  obtain ⟨c0, c1, c2⟩ := hz
  generalize at0 u x.toNat = a at *
  generalize at0 v x.toNat = b at *
  generalize at0 u y.toNat = c at *
  generalize at0 v y.toNat = d at *
  generalize at0 u z.toNat = e at *
  generalize at0 v z.toNat = f at *
  by_cases hd : d = 0
  · subst hd
    have hc : 0 < c := by omega
    have hf : f = 0 := by
      have : c * f ≤ 0 := by simpa using h2
      rcases Int.lt_or_le 0 f with h | h
      · have := Int.mul_pos hc h; omega
      · omega
    subst hf
    have := Int.mul_nonneg c0 a1
    simpa using this
  · have hd' : 0 < d := by omega
    have k1 : a * d * f ≤ c * b * f := Int.mul_le_mul_of_nonneg_right h1 c1
    have k2 : c * f * b ≤ e * d * b := Int.mul_le_mul_of_nonneg_right h2 a1
    have k3 : (a * f) * d ≤ (e * b) * d := by
      have e1 : a * f * d = a * d * f := by rw [Int.mul_right_comm]
      have e2 : c * b * f = c * f * b := by rw [Int.mul_right_comm]
      have e3 : e * d * b = e * b * d := by rw [Int.mul_right_comm]
      omega
    exact Int.le_of_mul_le_mul_right k3 hd'
theorem leR_total {u v : List Int} {x y : Int} (h : ¬ leR u v y x) : leR u v x y := by unfold leR at *; omega

/-- The things that are chosen, up to k. -/
def selTo (p : Nat → Bool) (k : Nat) : List Int := ((List.range k).filter p).map fun (i : Nat) => (i : Int)
theorem selTo_zero {p : Nat → Bool} : selTo p 0 = [] := rfl
theorem selTo_yes {p : Nat → Bool} {k : Nat} (h : p k = true) : selTo p (k + 1) = selTo p k ++ [(k : Int)] := by simp [selTo, List.range_succ, List.filter_append, h]
theorem selTo_no {p : Nat → Bool} {k : Nat} (h : p k = false) : selTo p (k + 1) = selTo p k := by simp [selTo, List.range_succ, List.filter_append, h]
theorem selTo_len {p : Nat → Bool} {k : Nat} : (selTo p k).length ≤ k := by
  unfold selTo
  rw [List.length_map]
  exact Nat.le_trans (List.length_filter_le _ _) (by simp)
theorem selTo_mem {p : Nat → Bool} {k : Nat} {x : Int} (h : x ∈ selTo p k) : ∃ i : Nat, x = i ∧ i < k ∧ p i = true := by
  simp only [selTo, List.mem_map, List.mem_filter, List.mem_range] at h
  obtain ⟨i, ⟨h1, h2⟩, rfl⟩ := h
  exact ⟨i, rfl, h1, h2⟩

/-- Whether heir 'from' has thing k first, and one of the two has a point for it. -/
def selB (r0 r1 : List Int) (fr : Int) (k : Nat) : Bool := decide ((if at0 r1 k ≤ at0 r0 k then (1 : Int) else 0) = 1 - fr) && decide (0 < at0 r0 k + at0 r1 k)
def tOrd (xss : List (Bool × List Int)) (fr : Int) : List Int := match xss with
  | [r0, r1] => if pointsB xss = true ∧ 0 ≤ fr ∧ fr ≤ 1 then isort (if fr = 0 then ratC r0.2 r1.2 else ratC r1.2 r0.2) (selTo (selB r0.2 r1.2 fr) r0.2.length) else []
  | _ => []
theorem tOrd_no {xss : List (Bool × List Int)} {fr : Int} (h : ¬ (pointsB xss = true ∧ 0 ≤ fr ∧ fr ≤ 1)) : tOrd xss fr = [] := by
  unfold tOrd; split
  · rw [if_neg h]
  · rfl
theorem tOrd_len {xss : List (Bool × List Int)} {fr : Int} : (tOrd xss fr).length ≤ 6 := by
  unfold tOrd
  split
  · rename_i r0 r1
    split
    · rename_i h
      have h1 := rect_len (points_facts h.1).2
      have h2 := selTo_len (p := selB r0.2 r1.2 fr) (k := r0.2.length)
      rw [isort_len]
      simp only [wid, List.headD_cons] at h1
      omega
    · simp
  · simp

end Go.Proofs.YtiieikknhheffaaDoor.Ax

/-
  Contract: indices (the program). No condition.
-/
namespace Go.Proofs.YtiieikknhheffaaDoor.Ax
open Go Go.RowKit
set_option linter.unusedSimpArgs false

/-- 0, 1, .. -/
def idx (n : Nat) : List Int := (List.range n).map fun (i : Nat) => (i : Int)
def idxTo (n k : Nat) : List Int := idx k ++ List.replicate (n - k) 0
theorem idx_len {n : Nat} : (idx n).length = n := by simp [idx]
theorem idxTo_len {n k : Nat} (h : k ≤ n) : (idxTo n k).length = n := by simp [idxTo, idx_len]; omega
theorem idxTo_set {n k : Nat} (h : k < n) : (idxTo n k).set k (k : Int) = idxTo n (k + 1) := by
  unfold idxTo
  rw [List.set_append_right _ _ (by simp [idx_len]), idx_len, Nat.sub_self, show n - k = (n - (k + 1)) + 1 by omega, List.replicate_succ, List.set_cons_zero]
  simp [idx, List.range_succ]
theorem idxTo_all {n : Nat} : idxTo n n = idx n := by simp [idxTo]

noncomputable def mIdx : List AV → Option AV := mk (fun p => p ≤ 1000) (fun (p : Nat) => [int (p : Int)]) (fun p => ints false (idx p))
theorem mIdx_at (n : Nat) (h : n ≤ 1000) : mIdx [.v (.int .i64 (n : Int))] = some (.sl false 1 ((idx n).map int)) :=
  mk_eq (enc := fun (p : Nat) => [int (p : Int)]) (x := n) (by intro a b h; simp [int] at h; exact (by omega : a = b) ▸ rfl) h

set_option maxHeartbeats 1000000 in
theorem indices_ok : FnOk Tryd.prog 51 mIdx := by
  refine mk_ok fun n hn => ?_
  have hG : FnsOk Tryd.prog [] := .nil
  refine callOk_awp (ctx_ok eqOk hG) mixed (live := [true, false, true, true, true, false, false, false, true, true, true]) (dt := []) Tryd.func51 rfl (by kernel_rfl) (by kernel_rfl) fun w0 hlens => ?_
  clear hlens
  have h1 : 8 * n ≤ 281474976710656 := by omega
  have h2 : n ≤ 4611686018427387904 := by omega
  simp (config := {contextual := true}) [Tryd.f51, List.range, List.range.loop, ints, intss, int, bool, row, frac, fracs, ← List.map_take, ← List.map_drop, h1, h2]
  refine awp_range (live := [true, false, true, true, true, false, false, false, true, true, true]) (ctx_ok eqOk hG) mixed [false, false, false, true, false, false, false, false, true, true] (n) (fun k => True) (fun k => ⟨[.junk, .junk, .junk, .ref 0 [] 0 n, .junk, .junk, .junk, .junk, int n, int k, .junk, .junk, .junk, .junk, .junk, .junk, .junk, .junk], [⟨true, .sl false 1 ((idxTo n k).map int)⟩]⟩) ?_ (by simp [sub, slotsLe, clean, keep, refsL, refs, once, place, renL, ren, List.replicate, int, bool, idxTo, idx]) ?_ ?_ ?_
  · omega
  · trivial
  · intro k hk _ hwk
    have hl := idxTo_len (n := n) (k := k) (by omega)
    have hs := idxTo_set hk
    have hl2 := idxTo_len (n := n) (k := k + 1) (by omega)
    have hs' : ((idxTo n k).map int).set k (.v (.int .i64 (k : Int))) = (idxTo n (k + 1)).map int := by rw [← hs, List.map_set]; rfl
    simp (config := {contextual := true}) [List.range, List.range.loop, ints, intss, int, bool, row, frac, fracs, ← List.map_take, ← List.map_drop, hk, hwk, hl, hl2, hs', -List.map_set]
    done
  · intro _
    have hl := idxTo_len (n := n) (k := n) (by omega)
    rw [idxTo_all] at hl
    simp (config := {contextual := true}) [List.range, List.range.loop, ints, intss, int, bool, row, frac, fracs, ← List.map_take, ← List.map_drop, hl, idxTo_all]
    done

end Go.Proofs.YtiieikknhheffaaDoor.Ax

/-
  Seats: what the two programs answer, as plain functions. No condition.
-/
namespace Go.Proofs.YtiieikknhheffaaDoor.Ax
open Go Go.RowKit

def cntB (xs : List Int) : Bool := inR 1 6 xs.length && xs.all (inR 0 1000000) && decide (0 < xs.sum)
def qtB (xs : List Int) (n : Int) : Bool := cntB xs && inR 0 100 n
def seB (xs ss : List Int) : Bool := cntB xs && decide (ss.length = xs.length) && ss.all (inR 0 100) && decide (ss.sum ≤ 100)

theorem sum_bd {c : Int} : ∀ {l : List Int}, (∀ x ∈ l, 0 ≤ x ∧ x ≤ c) → 0 ≤ l.sum ∧ l.sum ≤ c * l.length
  | [], _ => by simp
  | x :: l, h => by
    have h1 := h x (by simp)
    have h2 := sum_bd (l := l) fun y hy => h y (by simp [hy])
    simp only [List.sum_cons, List.length_cons]
    rw [Int.natCast_add, Int.mul_add]
    omega
theorem inR_iff {lo hi x : Int} : inR lo hi x = true ↔ lo ≤ x ∧ x ≤ hi := by simp [inR]
theorem cnt_facts {xs : List Int} (h : cntB xs = true) : 1 ≤ xs.length ∧ xs.length ≤ 6 ∧ (∀ x ∈ xs, 0 ≤ x ∧ x ≤ 1000000) ∧ 0 < xs.sum ∧ xs.sum ≤ 6000000 := by
  simp only [cntB, Bool.and_eq_true, inR_iff, List.all_eq_true, decide_eq_true_eq] at h
  obtain ⟨⟨h1, h2⟩, h3⟩ := h
  have := sum_bd h2
  exact ⟨by omega, by omega, h2, h3, by omega⟩
theorem sumW_sum {xs : List Int} (h : ∀ x ∈ xs, 0 ≤ x ∧ x ≤ 1000000) (hl : xs.length ≤ 1000000) : ∀ k, k ≤ xs.length → sumW (xs.take k) = (xs.take k).sum
  | 0, _ => rfl
  | k + 1, hk => by
    have hs := sum_bd (l := xs.take k) (c := 1000000) fun x hx => h x (List.mem_of_mem_take hx)
    have hx := h _ (List.getElem_mem (show k < xs.length by omega))
    rw [List.length_take] at hs
    rw [sumW_succ (by omega), sumW_sum h hl k (by omega), List.take_succ_eq_append_getElem (by omega), List.sum_append, List.sum_singleton]
    exact wrapI (by omega) (by omega)
theorem sumW_all {xs : List Int} (h : ∀ x ∈ xs, 0 ≤ x ∧ x ≤ 1000000) (hl : xs.length ≤ 1000000) : sumW xs = xs.sum := by
  have := sumW_sum h hl xs.length (Nat.le_refl _)
  rwa [List.take_length] at this
theorem sum_take_succ {xs : List Int} {k : Nat} (h : k < xs.length) : (xs.take (k + 1)).sum = (xs.take k).sum + xs[k] := by
  rw [List.take_succ_eq_append_getElem h, List.sum_append, List.sum_singleton]

/-! Quotas. -/
def qL (xs : List Int) (n : Int) : List Int := xs.map fun x => (x * n).tdiv xs.sum
def qR (xs : List Int) (n : Int) : List Int := xs.map fun x => (x * n).tmod xs.sum
def qU (xs : List Int) (n : Int) : List Int := xs.map fun x => (x * n + xs.sum - 1).tdiv xs.sum
theorem q_sum {S n : Int} : ∀ {l : List Int}, S * (l.map fun x => (x * n).tdiv S).sum + (l.map fun x => (x * n).tmod S).sum = l.sum * n
  | [] => by simp
  | x :: l => by
    have h1 := Int.mul_tdiv_add_tmod (x * n) S
    have h2 := q_sum (S := S) (n := n) (l := l)
    simp only [List.map_cons, List.sum_cons]
    rw [Int.mul_add, Int.add_mul]
    omega
theorem q_facts {xs : List Int} {n : Int} (h : qtB xs n = true) : (∀ x ∈ qR xs n, 0 ≤ x ∧ x < xs.sum) ∧ (∀ x ∈ qL xs n, 0 ≤ x ∧ x ≤ 100) ∧ 0 ≤ n - (qL xs n).sum ∧ n - (qL xs n).sum ≤ xs.length := by
  simp only [qtB, Bool.and_eq_true, inR_iff] at h
  obtain ⟨h, hn⟩ := h
  obtain ⟨h1, h2, h3, h4, h5⟩ := cnt_facts h
  have hr : ∀ x ∈ qR xs n, 0 ≤ x ∧ x ≤ xs.sum - 1 := fun x hx => by
    obtain ⟨y, hy, rfl⟩ := List.mem_map.1 hx
    have hy' := h3 y hy
    have := Int.tmod_lt_of_pos (y * n) h4
    have := Int.tmod_nonneg xs.sum (Int.mul_nonneg hy'.1 hn.1)
    omega
  have hle : ∀ x ∈ xs, x ≤ xs.sum := fun x hx => by
    obtain ⟨a, b, rfl⟩ := List.append_of_mem hx
    have ha := sum_bd (l := a) (c := 1000000) fun y hy => h3 y (by simp [hy])
    have hb := sum_bd (l := b) (c := 1000000) fun y hy => h3 y (by simp [hy])
    simp only [List.sum_append, List.sum_cons]
    omega
  have hs := q_sum (S := xs.sum) (n := n) (l := xs)
  have hb := sum_bd hr
  have hlen : (qR xs n).length = xs.length := by simp [qR]
  rw [hlen] at hb
  change xs.sum * (qL xs n).sum + (qR xs n).sum = xs.sum * n at hs
  have e : xs.sum * (n - (qL xs n).sum) = (qR xs n).sum := by rw [Int.mul_sub]; omega
  refine ⟨fun x hx => ⟨(hr x hx).1, by have := (hr x hx).2; omega⟩, fun x hx => ?_, ?_, ?_⟩
  · obtain ⟨y, hy, rfl⟩ := List.mem_map.1 hx
    have hy' := h3 y hy
    have hyle := hle y hy
    refine ⟨Int.tdiv_nonneg (Int.mul_nonneg hy'.1 hn.1) (by omega), ?_⟩
    have hm : y * n ≤ xs.sum * 100 := Int.le_trans (Int.mul_le_mul_of_nonneg_right hyle hn.1) (Int.mul_le_mul_of_nonneg_left hn.2 (by omega))
    have h0 := Int.mul_nonneg hy'.1 hn.1
    rw [Int.tdiv_eq_ediv_of_nonneg h0]
    exact Int.ediv_le_of_le_mul h4 (by rw [Int.mul_comm 100]; exact hm)
  · rcases Int.lt_or_le (n - (qL xs n).sum) 0 with hneg | h
    · have : xs.sum * (n - (qL xs n).sum) ≤ xs.sum * (-1) := Int.mul_le_mul_of_nonneg_left (by omega) (by omega)
      omega
    · exact h
  · rcases Int.lt_or_le (xs.length : Int) (n - (qL xs n).sum) with hgt | h
    · have k1 : xs.sum * ((xs.length : Int) + 1) ≤ xs.sum * (n - (qL xs n).sum) := Int.mul_le_mul_of_nonneg_left (by omega) (by omega)
      have k2 : (xs.sum - 1) * (xs.length : Int) ≤ xs.sum * (xs.length : Int) := Int.mul_le_mul_of_nonneg_right (by omega) (by omega)
      rw [Int.mul_add] at k1
      omega
    · exact h

/-! One more for some. -/
def inc1 (o : List Int) (i : Int) : List Int := o.set i.toNat (at0 o i.toNat + 1)
def incs (o : List Int) (l : List Int) : List Int := l.foldl inc1 o
theorem inc1_len {o : List Int} {i : Int} : (inc1 o i).length = o.length := by simp [inc1]
theorem incs_snoc {o l : List Int} {i : Int} : incs o (l ++ [i]) = inc1 (incs o l) i := by simp [incs, List.foldl_append]
theorem incs_take {o l : List Int} {k : Nat} (h : k < l.length) : incs o (l.take (k + 1)) = inc1 (incs o (l.take k)) l[k] := by rw [List.take_succ_eq_append_getElem h, incs_snoc]
theorem incs_len {o : List Int} : ∀ {l : List Int}, (incs o l).length = o.length := by
  intro l
  unfold incs
  induction l generalizing o with
  | nil => rfl
  | cons x l ih => rw [List.foldl_cons, ih, inc1_len]
theorem set_sum {v : Int} : ∀ {o : List Int} {i : Nat}, i < o.length → (o.set i (at0 o i + v)).sum = o.sum + v
  | x :: o, 0, _ => by simp [at0]; omega
  | x :: o, i + 1, h => by
    have := set_sum (v := v) (o := o) (i := i) (by simpa using h)
    simp only [List.set_cons_succ, List.sum_cons, at0, List.getD_cons_succ] at this ⊢
    omega
theorem inc1_sum {o : List Int} {i : Int} (h : i.toNat < o.length) : (inc1 o i).sum = o.sum + 1 := set_sum h
theorem inc1_bd {o : List Int} {i : Int} {c : Int} (h : ∀ x ∈ o, 0 ≤ x ∧ x ≤ c) (hi : i.toNat < o.length) : ∀ x ∈ inc1 o i, 0 ≤ x ∧ x ≤ c + 1 := fun x hx => by
  rcases List.mem_or_eq_of_mem_set hx with hx | rfl
  · have := h x hx; omega
  · have := h _ (List.getElem_mem hi)
    rw [at0_eq hi]; omega
theorem incs_facts {o : List Int} {c : Int} (h : ∀ x ∈ o, 0 ≤ x ∧ x ≤ c) : ∀ {l : List Int}, (∀ i ∈ l, i.toNat < o.length) → (incs o l).sum = o.sum + l.length ∧ ∀ x ∈ incs o l, 0 ≤ x ∧ x ≤ c + l.length := by
  intro l
  unfold incs
  induction l generalizing o c with
  | nil => intro _; exact ⟨by simp, fun x hx => by have := h x hx; simp; omega⟩
  | cons i l ih =>
    intro hl
    have hi := hl i (by simp)
    obtain ⟨h1, h2⟩ := ih (o := inc1 o i) (c := c + 1) (inc1_bd h hi) fun j hj => by rw [inc1_len]; exact hl j (by simp [hj])
    rw [List.foldl_cons, List.length_cons]
    refine ⟨by rw [h1, inc1_sum hi]; omega, fun x hx => ?_⟩
    have := h2 x hx
    omega

/-! The greatest remainders: one at a time, or in order. -/
def bstTo (rs : List Int) (us : List Bool) : Nat → Int
  | 0 => -1
  | i + 1 => if us.getD i true = false ∧ (bstTo rs us i < 0 ∨ at0 rs (bstTo rs us i).toNat < at0 rs i) then (i : Int) else bstTo rs us i
def lexS (rs : List Int) (x y : Int) : Prop := at0 rs y.toNat < at0 rs x.toNat ∨ (at0 rs x.toNat = at0 rs y.toNat ∧ x < y)
theorem bst_spec {rs : List Int} {us : List Bool} : ∀ k, (bstTo rs us k = -1 ∧ ∀ i, i < k → us.getD i true = true) ∨ ∃ b : Nat, bstTo rs us k = b ∧ b < k ∧ us.getD b true = false ∧ ∀ i : Nat, i < k → us.getD i true = false → i = b ∨ lexS rs b i
  | 0 => .inl ⟨rfl, fun i h => by omega⟩
  | k + 1 => by
    unfold bstTo
    rcases bst_spec (rs := rs) (us := us) k with ⟨h1, h2⟩ | ⟨b, h1, h2, h3, h4⟩
    · rw [h1]
      cases hu : us.getD k true with
      | true =>
        rw [if_neg (by simp)]
        refine .inl ⟨rfl, fun i hi => ?_⟩
        by_cases e : i = k
        · subst e; exact hu
        · exact h2 i (by omega)
      | false =>
        rw [if_pos ⟨rfl, .inl (by omega)⟩]
        refine .inr ⟨k, rfl, by omega, hu, fun i hi hf => ?_⟩
        by_cases e : i = k
        · exact .inl e
        · rw [h2 i (by omega)] at hf; cases hf
    · rw [h1]
      cases hu : us.getD k true with
      | true =>
        rw [if_neg (by simp)]
        refine .inr ⟨b, rfl, by omega, h3, fun i hi hf => ?_⟩
        by_cases e : i = k
        · subst e; rw [hu] at hf; cases hf
        · exact h4 i (by omega) hf
      | false =>
        by_cases hlt : at0 rs b < at0 rs k
        · rw [if_pos ⟨rfl, .inr (by simpa using hlt)⟩]
          refine .inr ⟨k, rfl, by omega, hu, fun i hi hf => ?_⟩
          by_cases e : i = k
          · exact .inl e
          · refine .inr (.inl ?_)
            simp only [Int.toNat_natCast]
            rcases h4 i (by omega) hf with rfl | h | ⟨h, _⟩
            · exact hlt
            · simp only [Int.toNat_natCast] at h; omega
            · simp only [Int.toNat_natCast] at h; omega
        · rw [if_neg (by rintro ⟨_, h | h⟩; omega; rw [Int.toNat_natCast] at h; omega)]
          refine .inr ⟨b, rfl, by omega, h3, fun i hi hf => ?_⟩
          by_cases e : i = k
          · subst e
            refine .inr ?_
            unfold lexS
            simp only [Int.toNat_natCast]
            omega
          · exact h4 i (by omega) hf

def rstC (rs : List Int) (a b : Int) : Int := at0 rs b.toNat - at0 rs a.toNat
def ordH (rs : List Int) : List Int := isort (rstC rs) (idx rs.length)
theorem ins_lex {rs : List Int} {ys : List Int} {x : Int} (h : ys.Pairwise (lexS rs)) (hx : ∀ y ∈ ys, y < x) : (ins (rstC rs) ys x).Pairwise (lexS rs) := by
  obtain ⟨k, h1, h2, h3⟩ := split_at (fun a b => at0 rs b.toNat ≤ at0 rs a.toNat) x ys
  have e := ins_split (c := rstC rs) (le := fun a b => at0 rs b.toNat ≤ at0 rs a.toNat) (D := fun _ => True) (fun x y _ _ => by unfold rstC; omega) (fun x y z _ _ _ h h' => Int.le_trans h' h) (ys := ys) (x := x) (k := k) (fun _ _ => trivial) trivial
    (h.imp fun h => by rcases h with h | ⟨h, _⟩ <;> omega) h1 h2 h3
  rw [e, List.pairwise_append, List.pairwise_cons]
  have hge : ∀ j (hj : j < ys.length), k ≤ j → at0 rs ys[j].toNat < at0 rs x.toNat := fun j hj hkj => by
    rcases h3 with h3 | ⟨hkl, h3⟩
    · omega
    · by_cases e : k = j
      · subst e; omega
      · rcases List.pairwise_iff_getElem.1 h k j hkl hj (by omega) with h | ⟨h, _⟩ <;> omega
  refine ⟨h.take, ⟨fun y hy => ?_, h.drop⟩, fun a ha b hb => ?_⟩
  · obtain ⟨i, hi, rfl⟩ := List.getElem_of_mem hy
    rw [List.getElem_drop]
    exact .inl (hge _ _ (by omega))
  · obtain ⟨i, hi, rfl⟩ := List.getElem_of_mem ha
    rw [List.getElem_take]
    have hik : i < k := by simp at hi; omega
    have hil : i < ys.length := by omega
    rcases List.mem_cons.1 hb with rfl | hb
    · have := h2 i hil hik
      have := hx _ (List.getElem_mem hil)
      unfold lexS; omega
    · obtain ⟨j, hj, rfl⟩ := List.getElem_of_mem hb
      rw [List.getElem_drop]
      exact List.pairwise_iff_getElem.1 h i (k + j) hil (by simp at hj; omega) (by omega)
theorem idx_succ {m : Nat} : idx (m + 1) = idx m ++ [(m : Int)] := by simp [idx, List.range_succ]
theorem isort_lex {rs : List Int} : ∀ m : Nat, (isort (rstC rs) (idx m)).Pairwise (lexS rs)
  | 0 => by simp [idx, isort]
  | m + 1 => by
    rw [idx_succ, isort_snoc]
    refine ins_lex (isort_lex m) fun y hy => ?_
    rw [isort_mem] at hy
    simp only [idx, List.mem_map, List.mem_range] at hy
    obtain ⟨i, hi, rfl⟩ := hy
    omega
theorem ordH_len {rs : List Int} : (ordH rs).length = rs.length := by simp [ordH, isort_len, idx]
theorem ordH_mem {rs : List Int} {x : Int} : x ∈ ordH rs ↔ ∃ i : Nat, i < rs.length ∧ x = i := by
  unfold ordH
  rw [isort_mem]
  simp only [idx, List.mem_map, List.mem_range]
  exact ⟨fun ⟨i, h, e⟩ => ⟨i, h, e.symm⟩, fun ⟨i, h, e⟩ => ⟨i, h, e.symm⟩⟩
/-- Who has been chosen. -/
def usT (m : Nat) (l : List Int) : List Bool := (List.range m).map fun (i : Nat) => decide ((i : Int) ∈ l)
theorem usT_at {m : Nat} {l : List Int} {i : Nat} (h : i < m) : (usT m l).getD i true = decide ((i : Int) ∈ l) := by simp [usT, List.getD_eq_getElem?_getD, h]
theorem ordH_pick {rs : List Int} {j : Nat} (hj : j < (ordH rs).length) : bstTo rs (usT rs.length ((ordH rs).take j)) rs.length = (ordH rs)[j] := by
  have hp := List.pairwise_iff_getElem.1 (isort_lex (rs := rs) rs.length)
  change ∀ (i j : Nat) (hi : i < (ordH rs).length) (hj : j < (ordH rs).length), i < j → lexS rs (ordH rs)[i] (ordH rs)[j] at hp
  obtain ⟨q, hq, e⟩ := ordH_mem.1 (List.getElem_mem hj)
  have hnot : ∀ j' (h' : j' < (ordH rs).length), j ≤ j' → (ordH rs)[j'] ∉ (ordH rs).take j := fun j' h' hjj hm => by
    obtain ⟨i, hi, e'⟩ := List.getElem_of_mem hm
    rw [List.getElem_take] at e'
    have hi' : i < j := by simp at hi; omega
    have := hp i j' (by omega) h' (by omega)
    rw [e'] at this
    rcases this with h | ⟨_, h⟩ <;> omega
  have hn := hnot j hj (Nat.le_refl _)
  rw [e] at hn
  rcases bst_spec (rs := rs) (us := usT rs.length ((ordH rs).take j)) rs.length with ⟨_, h2⟩ | ⟨b, h1, h2, h3, h4⟩
  · have := h2 q hq
    rw [usT_at hq] at this
    exact absurd (of_decide_eq_true this) hn
  · rw [h1]
    rw [usT_at h2] at h3
    have hb : ¬ (b : Int) ∈ (ordH rs).take j := of_decide_eq_false h3
    obtain ⟨j', hj', e'⟩ := List.getElem_of_mem (ordH_mem.2 ⟨b, h2, rfl⟩ : (b : Int) ∈ ordH rs)
    have hjj : j ≤ j' := Nat.le_of_not_lt fun h => hb (by
      rw [← e']
      have : ((ordH rs).take j)[j']'(by simp; omega) = (ordH rs)[j'] := List.getElem_take
      rw [← this]; exact List.getElem_mem _)
    by_cases e2 : j = j'
    · subst e2; exact e'.symm
    · have h5 := hp j j' hj hj' (by omega)
      rw [e, e'] at h5
      rcases h4 q hq (by rw [usT_at hq]; exact decide_eq_false hn) with rfl | h6
      · exact e.symm
      · exfalso
        unfold lexS at h5 h6
        simp only [Int.toNat_natCast] at h5 h6
        omega
theorem usT_zero {m : Nat} : usT m [] = List.replicate m false := by
  unfold usT
  apply List.ext_getElem
  · simp
  · intro i h1 h2; simp
theorem usT_set {m : Nat} {l : List Int} {i : Nat} : (usT m l).set i true = usT m (l ++ [(i : Int)]) := by
  apply List.ext_getElem
  · simp [usT]
  · intro j h1 h2
    rw [List.getElem_set]
    simp only [usT, List.getElem_map, List.getElem_range, List.mem_append, List.mem_singleton]
    by_cases e : i = j
    · subst e; simp
    · rw [if_neg e]
      have : ¬ (j : Int) = (i : Int) := by omega
      simp [this]
theorem usT_len {m : Nat} {l : List Int} : (usT m l).length = m := by simp [usT]

def hamK (xs : List Int) (n : Int) : Nat := (n - (qL xs n).sum).toNat
def hamT (xs : List Int) (n : Int) : List Int := incs (qL xs n) ((ordH (qR xs n)).take (hamK xs n))

/-! One seat after the other. -/
def clm (me x a : Int) : Int × Int := if me = 1 then (x, a) else if me = 2 then (x * (2 * a + 1), 2 * a * (a + 1)) else if me = 3 then (x * x, a * (a + 1)) else if me = 4 then (2 * x, 2 * a + 1) else (x, a + 1)
def cmpT (me x a y b : Int) : Int :=
  if x = 0 ∨ y = 0 then cmpI x y else if (clm me x a).2 = 0 ∧ (clm me y b).2 = 0 then cmpI x y else if (clm me x a).2 = 0 then 1 else if (clm me y b).2 = 0 then -1 else cmpI ((clm me x a).1 * (clm me y b).2) ((clm me y b).1 * (clm me x a).2)
def bcTo (me : Int) (xs ss : List Int) : Nat → Int
  | 0 => 0
  | i + 1 => if 0 < cmpT me (at0 xs i) (at0 ss i) (at0 xs (bcTo me xs ss i).toNat) (at0 ss (bcTo me xs ss i).toNat) then (i : Int) else bcTo me xs ss i
theorem bcTo_nat {me : Int} {xs ss : List Int} : ∀ k, ∃ b : Nat, bcTo me xs ss k = b ∧ (b = 0 ∨ b < k)
  | 0 => ⟨0, rfl, .inl rfl⟩
  | k + 1 => by
    obtain ⟨b, h1, h2⟩ := bcTo_nat (me := me) (xs := xs) (ss := ss) k
    unfold bcTo
    split
    · exact ⟨k, rfl, .inr (by omega)⟩
    · exact ⟨b, h1, by omega⟩
def ordS (me : Int) (xs : List Int) : Nat → List Int
  | 0 => []
  | j + 1 => ordS me xs j ++ [bcTo me xs (incs (List.replicate xs.length 0) (ordS me xs j)) xs.length]
theorem ordS_len {me : Int} {xs : List Int} : ∀ j, (ordS me xs j).length = j
  | 0 => rfl
  | j + 1 => by unfold ordS; rw [List.length_append, ordS_len j]; rfl
theorem ordS_mem {me : Int} {xs : List Int} (h : 1 ≤ xs.length) : ∀ j, ∀ x ∈ ordS me xs j, ∃ b : Nat, x = b ∧ b < xs.length
  | 0, x, hx => by simp [ordS] at hx
  | j + 1, x, hx => by
    unfold ordS at hx
    rcases List.mem_append.1 hx with hx | hx
    · exact ordS_mem h j x hx
    · rw [List.mem_singleton] at hx
      obtain ⟨b, h1, h2⟩ := bcTo_nat (me := me) (xs := xs) (ss := incs (List.replicate xs.length 0) (ordS me xs j)) xs.length
      exact ⟨b, by rw [hx, h1], by omega⟩
def seatT (me : Int) (xs : List Int) (j : Nat) : List Int := incs (List.replicate xs.length 0) (ordS me xs j)
theorem seatT_facts {me : Int} {xs : List Int} (h : 1 ≤ xs.length) (j : Nat) : (seatT me xs j).length = xs.length ∧ (seatT me xs j).sum = j ∧ ∀ x ∈ seatT me xs j, 0 ≤ x ∧ x ≤ j := by
  have hz : ∀ x ∈ List.replicate xs.length (0 : Int), 0 ≤ x ∧ x ≤ 0 := fun x hx => by rw [List.mem_replicate] at hx; omega
  obtain ⟨h1, h2⟩ := incs_facts hz (l := ordS me xs j) fun i hi => by
    obtain ⟨b, rfl, hb⟩ := ordS_mem h j i hi
    simpa using hb
  refine ⟨by simp [seatT, incs_len], ?_, fun x hx => ?_⟩
  · unfold seatT; rw [h1, ordS_len]; simp
  · have := h2 x hx
    rw [ordS_len] at this
    omega
theorem seatT_succ {me : Int} {xs : List Int} {j : Nat} : seatT me xs (j + 1) = inc1 (seatT me xs j) (bcTo me xs (seatT me xs j) xs.length) := by
  unfold seatT
  rw [ordS, incs_snoc]

/-! What is given. -/
def gsV (me : Int) (xs : List Int) (n : Int) : Bool := qtB xs n && (decide (me = 0) || inR 1 5 me)
def gsT (me : Int) (xs : List Int) (n : Int) : List Int := if gsV me xs n = true then (if me = 0 then hamT xs n else seatT me xs n.toNat) else []
def kqTo (L U ss : List Int) : Nat → Bool
  | 0 => true
  | k + 1 => kqTo L U ss k && inR (at0 L k) (at0 U k) (at0 ss k)
theorem kqTo_no {L U ss : List Int} {k : Nat} (h : inR (at0 L k) (at0 U k) (at0 ss k) = false) : ∀ {n : Nat}, k < n → kqTo L U ss n = false
  | 0, hn => by omega
  | n + 1, hn => by
    unfold kqTo
    by_cases e : k = n
    · subst e; rw [h, Bool.and_false]
    · rw [kqTo_no h (by omega), Bool.false_and]
theorem kqTo_all {L U ss : List Int} : ∀ {n : Nat}, (∀ i, i < n → inR (at0 L i) (at0 U i) (at0 ss i) = true) → kqTo L U ss n = true
  | 0, _ => rfl
  | n + 1, h => by
    unfold kqTo
    rw [kqTo_all fun i hi => h i (by omega), h n (by omega)]; rfl
def kqB (xs ss : List Int) : Bool := seB xs ss && kqTo (qL xs ss.sum) (qU xs ss.sum) ss ss.length
theorem hamT_facts {xs : List Int} {n : Int} (h : qtB xs n = true) : (hamT xs n).length = xs.length ∧ (hamT xs n).sum = n ∧ ∀ x ∈ hamT xs n, 0 ≤ x ∧ x ≤ 106 := by
  obtain ⟨h1, h2, h3, h4⟩ := q_facts h
  simp only [qtB, Bool.and_eq_true, inR_iff] at h
  obtain ⟨c1, c2, _⟩ := cnt_facts h.1
  have hk : (ordH (qR xs n)).length = xs.length := by rw [ordH_len]; simp [qR]
  have hkl : ((ordH (qR xs n)).take (hamK xs n)).length = hamK xs n := by rw [List.length_take, hk]; unfold hamK; omega
  obtain ⟨g1, g2⟩ := incs_facts h2 (l := (ordH (qR xs n)).take (hamK xs n)) fun i hi => by
    obtain ⟨b, hb, rfl⟩ := ordH_mem.1 (List.mem_of_mem_take hi)
    simpa [qR, qL] using hb
  rw [hkl] at g1 g2
  refine ⟨by simp [hamT, incs_len, qL], ?_, fun x hx => ?_⟩
  · unfold hamT; rw [g1]; unfold hamK; omega
  · have := g2 x hx
    unfold hamK at this; omega

end Go.Proofs.YtiieikknhheffaaDoor.Ax

/-
  Contracts: decimal numerals (strconv.Itoa; both programs' FormatInt). No condition.
-/
namespace Go.Proofs
open Go.Shelf
def Tryd.laysM171_ren : Go.Shelf.Ren := ⟨fun | 171 => 48 | 243 => 59 | 246 => 68 | 283 => 74 | 284 => 75 | 285 => 76 | 286 => 77 | 129 => 82 | 317 => 81 | 318 => 83 | 319 => 84 | 320 => 85 | 337 => 87 | 338 => 88 | n => n, fun | 3 => 3 | 9 => 9 | 2 => 2 | 4 => 4 | 171 => 65 | 0 => 0 | 53 => 66 | 37 => 37 | 5 => 5 | 173 => 69 | 212 => 77 | 51 => 78 | 20 => 20 | 213 => 79 | 46 => 74 | 232 => 82 | 233 => 83 | n => n, fun | 17 => 0 | 18 => 2 | 19 => 3 | n => n⟩
theorem Tryd.laysM171 : Go.Proofs.LaysM.n171 Tryd.prog Tryd.laysM171_ren := {
  mixed := by kernel_rfl
  f129 := Tryd.func82.trans (congrArg some (by kernel_rfl))
  f171 := Tryd.func48.trans (congrArg some (by kernel_rfl))
  f243 := Tryd.func59.trans (congrArg some (by kernel_rfl))
  f246 := Tryd.func68.trans (congrArg some (by kernel_rfl))
  f283 := Tryd.func74.trans (congrArg some (by kernel_rfl))
  f284 := Tryd.func75.trans (congrArg some (by kernel_rfl))
  f285 := Tryd.func76.trans (congrArg some (by kernel_rfl))
  f286 := Tryd.func77.trans (congrArg some (by kernel_rfl))
  f317 := Tryd.func81.trans (congrArg some (by kernel_rfl))
  f318 := Tryd.func83.trans (congrArg some (by kernel_rfl))
  f319 := Tryd.func84.trans (congrArg some (by kernel_rfl))
  f320 := Tryd.func85.trans (congrArg some (by kernel_rfl))
  f337 := Tryd.func87.trans (congrArg some (by kernel_rfl))
  f338 := Tryd.func88.trans (congrArg some (by kernel_rfl))
  t0 := Tryd.underlying0
  a0 := Tryd.isAgg0
  z0 := Tryd.sizeOf0
  v0 := Tryd.zeroValue0
  t2 := Tryd.underlying2
  a2 := Tryd.isAgg2
  z2 := Tryd.sizeOf2
  v2 := Tryd.zeroValue2
  t3 := Tryd.underlying3
  a3 := Tryd.isAgg3
  z3 := Tryd.sizeOf3
  v3 := Tryd.zeroValue3
  t4 := Tryd.underlying4
  a4 := Tryd.isAgg4
  z4 := Tryd.sizeOf4
  v4 := Tryd.zeroValue4
  t5 := Tryd.underlying5
  a5 := Tryd.isAgg5
  z5 := Tryd.sizeOf5
  v5 := Tryd.zeroValue5
  t9 := Tryd.underlying9
  a9 := Tryd.isAgg9
  z9 := Tryd.sizeOf9
  v9 := Tryd.zeroValue9
  t20 := Tryd.underlying20
  a20 := Tryd.isAgg20
  z20 := Tryd.sizeOf20
  v20 := Tryd.zeroValue20
  t37 := Tryd.underlying37
  a37 := Tryd.isAgg37
  z37 := Tryd.sizeOf37
  v37 := Tryd.zeroValue37
  t46 := Tryd.underlying74
  a46 := Tryd.isAgg74
  z46 := Tryd.sizeOf74
  v46 := Tryd.zeroValue74
  t51 := Tryd.underlying78
  a51 := Tryd.isAgg78
  z51 := Tryd.sizeOf78
  v51 := Tryd.zeroValue78
  t53 := Tryd.underlying66
  a53 := Tryd.isAgg66
  z53 := Tryd.sizeOf66
  v53 := Tryd.zeroValue66
  t171 := Tryd.underlying65
  a171 := Tryd.isAgg65
  z171 := Tryd.sizeOf65
  v171 := Tryd.zeroValue65
  t173 := Tryd.underlying69
  a173 := Tryd.isAgg69
  z173 := Tryd.sizeOf69
  v173 := Tryd.zeroValue69
  t212 := Tryd.underlying77
  a212 := Tryd.isAgg77
  z212 := Tryd.sizeOf77
  v212 := Tryd.zeroValue77
  t213 := Tryd.underlying79
  a213 := Tryd.isAgg79
  z213 := Tryd.sizeOf79
  t232 := Tryd.underlying82
  a232 := Tryd.isAgg82
  z232 := Tryd.sizeOf82
  v232 := Tryd.zeroValue82
  t233 := Tryd.underlying83
  a233 := Tryd.isAgg83
  z233 := Tryd.sizeOf83
  v233 := Tryd.zeroValue83
  g17 := by kernel_rfl
  g18 := by kernel_rfl
  g19 := by kernel_rfl
  i0 := by kernel_rfl
  i2 := by kernel_rfl
  i3 := by kernel_rfl
  i4 := by kernel_rfl
  i5 := by kernel_rfl
  i9 := by kernel_rfl
  i20 := by kernel_rfl
  i37 := by kernel_rfl
  i46 := by kernel_rfl
  i51 := by kernel_rfl
  i53 := by kernel_rfl
  i171 := by kernel_rfl
  i173 := by kernel_rfl
  i212 := by kernel_rfl
  i232 := by kernel_rfl
  i233 := by kernel_rfl
  m17 := by kernel_rfl
  m18 := by kernel_rfl
  m19 := by kernel_rfl }
end Go.Proofs
namespace Go.Proofs.YtiieikknhheffaaDoor.Ax
open Go Go.RowKit
set_option linter.unusedSimpArgs false

def inI (n : Int) : Prop := -9223372036854775808 ≤ n ∧ n ≤ 9223372036854775807
def itoaS (n : Int) : ByteArray := ⟨(Lib.itoa n).toArray⟩

theorem tab_of {F : Nat → Prop} {w : World} (h : Gl F w) : Lib.TabIs Tryd.prog w "internal/strconv.uint64pow10" .u64 Lib.pow10Tab := by
  cases hg : Tryd.prog.globalNamed "internal/strconv.uint64pow10" with
  | none => exact absurd (show (Tryd.prog.globalNamed "internal/strconv.uint64pow10").isSome = true by kernel_rfl) (by rw [hg]; simp)
  | some g =>
    obtain ⟨_, x, y, h2⟩ := h.1 g hg
    unfold Lib.TabIs World.var?
    rw [hg]
    simp [h2]

noncomputable def mItoa : List AV → Option AV := mk inI (fun (n : Int) => [int n]) (fun n => .v (.string (itoaS n)))
theorem mItoa_at (n : Int) (h : inI n) : mItoa [.v (.int .i64 n)] = some (.v (.string (itoaS n))) :=
  mk_eq (enc := fun (n : Int) => [int n]) (x := n) (by intro a b h; simp [int] at h; rw [h]) h

theorem itoa_ok : FnOk Tryd.prog 48 mItoa := by
  refine mk_ok fun n hn => ?_
  refine ⟨⟨_, Tryd.func48, by kernel_rfl, by kernel_rfl⟩, fun w F vals hF hv => ?_⟩
  simp only [RepL, Rep, int] at hv
  obtain ⟨a, r1, e1, ⟨rfl, _⟩, rfl⟩ := hv
  have hvals : vals = #[.int .i64 n] := by apply Array.ext'; rw [e1]
  subst hvals
  refine (Go.Proofs.Any.strconv_Itoa Tryd.laysM171 n hn.1 hn.2 w (tab_of hF.gl)).mono fun e w' h => ?_
  obtain ⟨rfl, k, os, rfl⟩ := h
  refine ⟨_, fun _ => False, rfl, ⟨rfl, rfl, rfl, by simp [Go.Sort.grow, World.drewN], fun b hb _ => ?_⟩, fun _ h => h.elim, ?_⟩
  · simp [Go.Sort.grow, World.drewN, Array.getElem?_append, hb]
  · simp only [Own]; exact ⟨rfl, rfl⟩

theorem implFormatInt_ok : FnOk Tryd.prog 30 mItoa := by
  refine mk_ok fun n hn => ?_
  have hG : FnsOk Tryd.prog [(48, mItoa)] := (.cons itoa_ok .nil)
  refine callOk_awp (ctx_ok eqOk hG) mixed (live := [true, false, true]) (dt := []) Tryd.func30 rfl (by kernel_rfl) (by kernel_rfl) fun w0 hlens => ?_
  clear hlens
  have hm := mItoa_at n hn
  simp (config := {contextual := true}) [Tryd.f30, List.range, List.range.loop, ints, intss, int, bool, row, frac, fracs, ← List.map_take, ← List.map_drop, hm]
  done

end Go.Proofs.YtiieikknhheffaaDoor.Ax
