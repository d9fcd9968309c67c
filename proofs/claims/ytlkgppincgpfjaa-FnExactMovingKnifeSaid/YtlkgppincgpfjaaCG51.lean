/-
  All lists of a length over a range of numbers, in lexicographic order; the list behind one of them. No condition.
-/
import Derived.Test.YtlkgppincgpfjaaCB2
namespace Go.Proofs.Ytlkgppincgpfjaa.Ax
open Go Go.RowKit

/-- low, low + 1, .. : m numbers; behind each of them the lists of L. -/
def blocks (L : List (List Int)) (x : Int) : Nat → List (List Int)
  | 0 => []
  | m + 1 => L.map (x :: ·) ++ blocks L (x + 1) m

/-- All lists of length n over low .. high. -/
def allL (low high : Int) : Nat → List (List Int)
  | 0 => [[]]
  | n + 1 => blocks (allL low high n) low (high + 1 - low).toNat

/-- The next list. -/
def next (low high : Int) : List Int → Option (List Int)
  | [] => none
  | x :: l => match next low high l with
    | some l' => some (x :: l')
    | none => if x < high then some ((x + 1) :: List.replicate l.length low) else none

theorem next_last {low high : Int} : ∀ n, next low high (List.replicate n high) = none
  | 0 => rfl
  | n + 1 => by rw [List.replicate_succ, next, next_last n]; simp

theorem next_step {low high x : Int} (hx : x < high) {m : Nat} : ∀ (p : List Int), next low high (p ++ x :: List.replicate m high) = some (p ++ (x + 1) :: List.replicate m low)
  | [] => by simp [next, next_last, hx]
  | y :: p => by simp only [List.cons_append, next, next_step hx p]

theorem next_len {low high : Int} : ∀ {l l' : List Int}, next low high l = some l' → l'.length = l.length
  | [], l', h => by simp [next] at h
  | x :: l, l', h => by
    simp only [next] at h
    split at h
    · rename_i l2 h2
      simp only [Option.some.injEq] at h; subst h
      simp [next_len h2]
    · split at h
      · simp only [Option.some.injEq] at h; subst h; simp
      · simp at h

/-- 'Behind each list of L stands its next one.' -/
def Ch (low high : Int) (L : List (List Int)) : Prop := ∀ (k : Nat) (l : List Int), L[k]? = some l → L[k + 1]? = next low high l

theorem blocks_ch {low high : Int} {L : List (List Int)} {n : Nat} (hL : Ch low high L) (h0 : L[0]? = some (List.replicate n low)) (hlen : ∀ l ∈ L, l.length = n) :
    ∀ (m : Nat) (x : Int), x + (m : Int) = high + 1 → Ch low high (blocks L x m)
  | 0, x, _ => by intro k l h; simp [blocks] at h
  | m + 1, x, hx => by
    intro k l h
    have ih := blocks_ch hL h0 hlen m (x + 1) (by omega)
    simp only [blocks] at h ⊢
    have hll : (L.map (x :: ·)).length = L.length := by simp
    by_cases hk : k < L.length
    · rw [List.getElem?_append_left (by rw [hll]; exact hk)] at h
      rw [List.getElem?_map, Option.map_eq_some_iff] at h
      obtain ⟨l0, hl0, rfl⟩ := h
      have hn := hL k l0 hl0
      by_cases hk1 : k + 1 < L.length
      · rw [List.getElem?_append_left (by rw [hll]; exact hk1), List.getElem?_map]
        rw [List.getElem?_eq_getElem hk1] at hn ⊢
        simp only [next, ← hn, Option.map_some]
      · have hnone : next low high l0 = none := by rw [← hn]; exact List.getElem?_eq_none (by omega)
        have hl0n := hlen l0 (List.mem_of_getElem? hl0)
        rw [List.getElem?_append_right (by rw [hll]; omega), hll, show k + 1 - L.length = 0 by omega]
        simp only [next, hnone]
        cases m with
        | zero =>
          rw [if_neg (by omega)]
          simp [blocks]
        | succ m =>
          rw [if_pos (by omega), hl0n]
          simp only [blocks]
          rw [List.getElem?_append_left (by simp; have := (List.getElem?_eq_some_iff.1 h0).1; omega), List.getElem?_map, h0]
          rfl
    · rw [List.getElem?_append_right (by rw [hll]; omega), hll] at h
      rw [List.getElem?_append_right (by rw [hll]; omega), hll, show k + 1 - L.length = k - L.length + 1 by omega]
      exact ih _ l h

theorem blocks_mem {L : List (List Int)} {l : List Int} : ∀ {m : Nat} {x : Int}, l ∈ blocks L x m → ∃ y l0, l = y :: l0 ∧ l0 ∈ L ∧ x ≤ y ∧ y < x + m
  | 0, x, h => by simp [blocks] at h
  | m + 1, x, h => by
    simp only [blocks, List.mem_append, List.mem_map] at h
    rcases h with ⟨l0, h1, rfl⟩ | h
    · exact ⟨x, l0, rfl, h1, Int.le_refl _, by omega⟩
    · obtain ⟨y, l0, h1, h2, h3, h4⟩ := blocks_mem h
      exact ⟨y, l0, h1, h2, by omega, by omega⟩

theorem allL_mem {low high : Int} : ∀ {n : Nat} {l : List Int}, l ∈ allL low high n → l.length = n ∧ ∀ x ∈ l, low ≤ x ∧ x ≤ high
  | 0, l, h => by simp [allL] at h; subst h; simp
  | n + 1, l, h => by
    simp only [allL] at h
    obtain ⟨y, l0, rfl, h2, h3, h4⟩ := blocks_mem h
    obtain ⟨g1, g2⟩ := allL_mem h2
    refine ⟨by simp [g1], fun z hz => ?_⟩
    rcases List.mem_cons.1 hz with rfl | hz
    · omega
    · exact g2 z hz

theorem allL_head {low high : Int} (h : low ≤ high) : ∀ n, (allL low high n)[0]? = some (List.replicate n low)
  | 0 => rfl
  | n + 1 => by
    obtain ⟨m, hm⟩ : ∃ m, (high + 1 - low).toNat = m + 1 := ⟨(high - low).toNat, by omega⟩
    have ih := allL_head h n
    simp only [allL, hm, blocks]
    rw [List.getElem?_append_left (by simp; exact (List.getElem?_eq_some_iff.1 ih).1), List.getElem?_map, ih]
    rfl

theorem allL_ch {low high : Int} (h : low ≤ high) : ∀ n, Ch low high (allL low high n)
  | 0 => by
    intro k l hk
    cases k with
    | zero => simp [allL] at hk ⊢; subst hk; rfl
    | succ k => simp [allL] at hk
  | n + 1 => by
    simp only [allL]
    exact blocks_ch (allL_ch h n) (allL_head h n) (fun l hl => (allL_mem hl).1) _ _ (by omega)

/-- From the end of the list back to the first number that is not the highest. -/
theorem next_at {low high : Int} {l : List Int} {j : Nat} (hj : j < l.length) (hx : l[j] < high) (hd : l.drop (j + 1) = List.replicate (l.length - (j + 1)) high) : next low high l = some (l.take j ++ (l[j] + 1) :: List.replicate (l.length - (j + 1)) low) := by
  have : l = l.take j ++ l[j] :: List.replicate (l.length - (j + 1)) high := by
    rw [← hd]
    conv => lhs; rw [← List.take_append_drop j l, List.drop_eq_getElem_cons hj]
  conv => lhs; rw [this]
  exact next_step hx _

end Go.Proofs.Ytlkgppincgpfjaa.Ax
