/-
  The plain side of the goods: all full allocations by their last good, the greatest product, taking turns. Plain Lean, no program in sight.
-/
import Derived.Test.YtakladjlnkojjaaDoorCG5
import Derived.Test.YtakladjlnkojjaaDoorCG51
namespace Go.Proofs.YtakladjlnkojjaaDoor.Ax
open Go Go.RowKit
set_option linter.unusedSimpArgs false
set_option linter.unusedVariables false

/-- A list, and one more number. -/
def snocs (l : List Int) (k : Nat) : List (List Int) := (List.range k).map fun (i : Nat) => l ++ [(i : Int)]
theorem snocs_succ {l : List Int} {k : Nat} : snocs l (k + 1) = snocs l k ++ [l ++ [(k : Int)]] := by unfold snocs; rw [List.range_succ, List.map_append]; rfl
theorem snocs_len {l : List Int} {k : Nat} : (snocs l k).length = k := by simp [snocs]
def snocL (n : Nat) (L : List (List Int)) : List (List Int) := L.flatMap fun l => snocs l n
theorem flatMap_cg {α β : Type} {f g : α → List β} : ∀ {l : List α}, (∀ x ∈ l, f x = g x) → l.flatMap f = l.flatMap g
  | [], _ => rfl
  | a :: l, h => by rw [List.flatMap_cons, List.flatMap_cons, h a (by simp), flatMap_cg fun x hx => h x (by simp [hx])]
theorem blocks_app {L : List (List Int)} : ∀ (m : Nat) (x : Int), blocks L x m = (List.range m).flatMap fun (i : Nat) => L.map ((x + (i : Int)) :: ·)
  | 0, _ => rfl
  | m + 1, x => by
    rw [blocks, blocks_app m, List.range_succ_eq_map, List.flatMap_cons, List.flatMap_map]
    congr 1
    · simp
    · apply flatMap_cg
      intro i _
      have : x + 1 + (i : Int) = x + ((i + 1 : Nat) : Int) := by omega
      rw [this]
theorem snoc_cons {n : Nat} {L : List (List Int)} {y : Int} : snocL n (L.map (y :: ·)) = (snocL n L).map (y :: ·) := by
  unfold snocL
  rw [List.flatMap_map, List.map_flatMap]
  apply flatMap_cg
  intro l _
  simp [snocs]
theorem snoc_flat {n : Nat} {l : List Nat} {f : Nat → List (List Int)} : snocL n (l.flatMap f) = l.flatMap fun i => snocL n (f i) := by
  unfold snocL
  rw [List.flatMap_assoc]
/-- All lists, built from the end. -/
theorem allL_rng {n k : Nat} : allL 0 ((n : Int) - 1) (k + 1) = (List.range n).flatMap fun (i : Nat) => (allL 0 ((n : Int) - 1) k).map ((0 + (i : Int)) :: ·) := by
  have : ((n : Int) - 1 + 1 - 0).toNat = n := by omega
  rw [allL, this, blocks_app]
theorem allL_snoc {n : Nat} : ∀ m, allL 0 ((n : Int) - 1) (m + 1) = snocL n (allL 0 ((n : Int) - 1) m)
  | 0 => by
    rw [allL_rng]
    simp only [allL, snocL, List.flatMap_cons, List.flatMap_nil, List.append_nil, snocs, List.map_cons, List.map_nil, Int.zero_add, List.nil_append]
    rw [← List.map_eq_flatMap]
  | m + 1 => by
    have ih := allL_snoc (n := n) m
    have e1 : allL 0 ((n : Int) - 1) (m + 1 + 1) = (List.range n).flatMap fun (i : Nat) => (snocL n (allL 0 ((n : Int) - 1) m)).map ((0 + (i : Int)) :: ·) := by rw [← ih]; exact allL_rng
    have e2 : snocL n (allL 0 ((n : Int) - 1) (m + 1)) = (List.range n).flatMap fun (i : Nat) => snocL n ((allL 0 ((n : Int) - 1) m).map ((0 + (i : Int)) :: ·)) := by rw [allL_rng (k := m), snoc_flat]
    rw [e1, e2]
    apply flatMap_cg
    intro i _
    rw [snoc_cons]
theorem snocL_len {n : Nat} {L : List (List Int)} : (snocL n L).length = n * L.length := by
  unfold snocL
  induction L with
  | nil => simp
  | cons a l ih => rw [List.flatMap_cons, List.length_append, ih, snocs_len, List.length_cons, Nat.mul_add, Nat.mul_one, Nat.add_comm]
theorem allL_len {n : Nat} : ∀ m, (allL 0 ((n : Int) - 1) m).length = n ^ m
  | 0 => rfl
  | m + 1 => by rw [allL_snoc, snocL_len, allL_len m, Nat.pow_succ, Nat.mul_comm]
/-- The first j lists with every number behind them, and list j with the first i. -/
def snTo (n : Nat) (L : List (List Int)) (j i : Nat) : List (List Int) := snocL n (L.take j) ++ snocs (L.getD j []) i
theorem snTo_zero {n : Nat} {L : List (List Int)} {j : Nat} : snTo n L j 0 = snocL n (L.take j) := by simp [snTo, snocs]
theorem snTo_succ {n : Nat} {L : List (List Int)} {j i : Nat} : snTo n L j (i + 1) = snTo n L j i ++ [L.getD j [] ++ [(i : Int)]] := by simp [snTo, snocs_succ]
theorem snTo_all {n : Nat} {L : List (List Int)} {j : Nat} (h : j < L.length) : snTo n L j n = snocL n (L.take (j + 1)) := by
  unfold snTo snocL
  rw [List.take_succ_eq_append_getElem h, List.flatMap_append]
  simp [List.getD_eq_getElem?_getD, h]

/-- Nobody envies anybody. -/
def frR (xss : List (Bool × List Int)) (l : List Int) (i k : Nat) : Bool := decide (wo xss l i k ≤ wo xss l i i)
def frB (xss : List (Bool × List Int)) (l : List Int) : Bool := allR xss.length fun i => allR xss.length (frR xss l i)

/-- How many get what is worth something to them, and the product. -/
def prT (xss : List (Bool × List Int)) (l : List Int) : Nat → Int × Int
  | 0 => (0, 1)
  | k + 1 => if 0 < wo xss l k k then ((prT xss l k).1 + 1, (prT xss l k).2 * wo xss l k k) else prT xss l k
def prA (xss : List (Bool × List Int)) (l : List Int) : Int × Int := prT xss l xss.length
def prGt (a b : Int × Int) : Bool := decide (b.1 < a.1) || (decide (a.1 = b.1) && decide (b.2 < a.2))
def pickP (xss : List (Bool × List Int)) (o : Option (List Int)) (l : List Int) : Option (List Int) :=
  match o with
  | none => some l
  | some b => if prGt (prA xss l) (prA xss b) = true then some l else some b
def bestP (xss : List (Bool × List Int)) (L : List (List Int)) : Option (List Int) := L.foldl (pickP xss) none
theorem bestP_take {xss : List (Bool × List Int)} {L : List (List Int)} {k : Nat} (h : k < L.length) : bestP xss (L.take (k + 1)) = pickP xss (bestP xss (L.take k)) L[k] := by
  unfold bestP; rw [List.take_succ_eq_append_getElem h, List.foldl_append]; rfl
theorem bestP_mem {xss : List (Bool × List Int)} {L : List (List Int)} : ∀ {o : Option (List Int)}, ∀ b, L.foldl (pickP xss) o = some b → b ∈ L ∨ o = some b := by
  induction L with
  | nil => intro o b h; exact .inr h
  | cons a l ih =>
    intro o b h
    rw [List.foldl_cons] at h
    rcases ih b h with h | h
    · exact .inl (List.mem_cons_of_mem _ h)
    · unfold pickP at h
      split at h
      · cases h; exact .inl (by simp)
      · split at h
        · cases h; exact .inl (by simp)
        · exact .inr h
theorem bestP_some {xss : List (Bool × List Int)} {L : List (List Int)} (h : L ≠ []) : ∃ b, bestP xss L = some b ∧ b ∈ L := by
  have key : ∀ (L : List (List Int)) (o : Option (List Int)), (o ≠ none ∨ L ≠ []) → L.foldl (pickP xss) o ≠ none := by
    intro L
    induction L with
    | nil => intro o h; exact h.resolve_right (by simp)
    | cons a l ih =>
      intro o _
      rw [List.foldl_cons]
      refine ih _ (.inl ?_)
      unfold pickP
      split
      · simp
      · split <;> simp
  obtain ⟨b, hb⟩ := Option.ne_none_iff_exists'.1 (key L none (.inr h))
  exact ⟨b, hb, (bestP_mem b hb).resolve_right (by simp)⟩

/-- How many of the first allocations are free of envy. -/
def cntF (xss : List (Bool × List Int)) (L : List (List Int)) : Nat := L.countP (frB xss)
theorem cntF_take {xss : List (Bool × List Int)} {L : List (List Int)} {k : Nat} (h : k < L.length) : cntF xss (L.take (k + 1)) = cntF xss (L.take k) + if frB xss L[k] = true then 1 else 0 := by
  unfold cntF; rw [List.take_succ_eq_append_getElem h, List.countP_append]; simp
theorem cntF_le {xss : List (Bool × List Int)} {L : List (List Int)} : cntF xss L ≤ L.length := List.countP_le_length

/-- The best of the first k goods that nobody has, or -1. -/
def tkB (v : List Int) (o : List Int) : Nat → Int
  | 0 => -1
  | k + 1 => if o.getD k 0 < 0 ∧ (tkB v o k < 0 ∨ v.getD (tkB v o k).toNat 0 < v.getD k 0) then (k : Int) else tkB v o k
theorem tkB_bd {v o : List Int} : ∀ {k : Nat}, -1 ≤ tkB v o k ∧ tkB v o k < (k : Int)
  | 0 => by simp [tkB]
  | k + 1 => by
    have := tkB_bd (v := v) (o := o) (k := k)
    unfold tkB
    split
    · omega
    · omega
theorem tkB_free {v o : List Int} : ∀ {k : Nat}, (0 ≤ tkB v o k → o.getD (tkB v o k).toNat 0 < 0) ∧ (tkB v o k < 0 → ∀ j, j < k → 0 ≤ o.getD j 0)
  | 0 => by simp [tkB]
  | k + 1 => by
    obtain ⟨h1, h2⟩ := tkB_free (v := v) (o := o) (k := k)
    unfold tkB
    split
    · rename_i h
      refine ⟨fun _ => by rw [Int.toNat_natCast]; exact h.1, fun h => by omega⟩
    · rename_i h
      refine ⟨h1, fun h3 j hj => ?_⟩
      by_cases e : j = k
      · subst e
        by_cases h4 : o.getD j 0 < 0
        · exact absurd ⟨h4, .inl h3⟩ h
        · omega
      · exact h2 h3 j (by omega)
def tkT (xss : List (Bool × List Int)) (m : Nat) : Nat → List Int
  | 0 => List.replicate m (-1)
  | k + 1 => (tkT xss m k).set (tkB (xss.getD (k % xss.length) (true, [])).2 (tkT xss m k) m).toNat ((k % xss.length : Nat) : Int)
theorem tkT_len {xss : List (Bool × List Int)} {m : Nat} : ∀ {k : Nat}, (tkT xss m k).length = m
  | 0 => by simp [tkT]
  | k + 1 => by simp [tkT, tkT_len]
theorem tkT_bd {xss : List (Bool × List Int)} {m : Nat} (hn : 0 < xss.length) : ∀ {k : Nat}, ∀ x ∈ tkT xss m k, -1 ≤ x ∧ x < xss.length
  | 0, x, hx => by simp only [tkT, List.mem_replicate] at hx; omega
  | k + 1, x, hx => by
    rw [tkT] at hx
    rcases List.mem_or_eq_of_mem_set hx with h | h
    · exact tkT_bd hn x h
    · subst h
      have := Nat.mod_lt k hn
      omega
/-- As many are free as turns are to come. -/
theorem tkT_cnt {xss : List (Bool × List Int)} {m : Nat} : ∀ {k : Nat}, k ≤ m → (tkT xss m k).countP (fun x => decide (x < 0)) + k = m ∧ (k < m → 0 ≤ tkB (xss.getD (k % xss.length) (true, [])).2 (tkT xss m k) m)
  | 0, _ => by
    constructor
    · simp [tkT, List.countP_replicate]
    · intro h
      rcases Int.lt_or_le (tkB (xss.getD (0 % xss.length) (true, [])).2 (tkT xss m 0) m) 0 with h' | h'
      · have := (tkB_free (v := (xss.getD (0 % xss.length) (true, [])).2) (o := tkT xss m 0) (k := m)).2 h' 0 h
        simp [tkT, List.getD_eq_getElem?_getD, h] at this
      · exact h'
  | k + 1, hk => by
    obtain ⟨h1, h2⟩ := tkT_cnt (xss := xss) (m := m) (k := k) (by omega)
    have h3 := h2 (by omega)
    have hb := tkB_bd (v := (xss.getD (k % xss.length) (true, [])).2) (o := tkT xss m k) (k := m)
    have hf := (tkB_free (v := (xss.getD (k % xss.length) (true, [])).2) (o := tkT xss m k) (k := m)).1 h3
    have hl := tkT_len (xss := xss) (m := m) (k := k)
    have hc : (tkT xss m (k + 1)).countP (fun x => decide (x < 0)) + 1 = (tkT xss m k).countP (fun x => decide (x < 0)) := by
      rw [tkT]
      generalize (tkB (xss.getD (k % xss.length) (true, [])).2 (tkT xss m k) m) = t at *
      generalize tkT xss m k = o at *
      have ht : t.toNat < o.length := by omega
      rw [List.countP_set]
      rotate_left
      · exact ht
      have hg : o[t.toNat] < 0 := by simpa [List.getD_eq_getElem?_getD, ht] using hf
      have hp : 0 < o.countP (fun x => decide (x < 0)) := List.countP_pos_iff.2 ⟨_, List.getElem_mem ht, by simpa using hg⟩
      have hz : ¬ ((k % xss.length : Nat) : Int) < 0 := by omega
      simp only [hg, hz, decide_true, decide_false, if_true, Bool.false_eq_true, if_false]
      omega
    refine ⟨by omega, fun hkm => ?_⟩
    rcases Int.lt_or_le (tkB (xss.getD ((k + 1) % xss.length) (true, [])).2 (tkT xss m (k + 1)) m) 0 with h' | h'
    · have hall := (tkB_free (v := (xss.getD ((k + 1) % xss.length) (true, [])).2) (o := tkT xss m (k + 1)) (k := m)).2 h'
      have h0 : (tkT xss m (k + 1)).countP (fun x => decide (x < 0)) = 0 := by
        rw [List.countP_eq_zero]
        intro x hx
        obtain ⟨j, hj, rfl⟩ := List.getElem_of_mem hx
        have := hall j (by rw [tkT_len] at hj; exact hj)
        rw [List.getD_eq_getElem?_getD, List.getElem?_eq_getElem hj] at this
        simpa using this
      omega
    · exact h'

end Go.Proofs.YtakladjlnkojjaaDoor.Ax
