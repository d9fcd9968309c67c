/-
  Auctions of up to three bidders and things: exchanging bidders between two awards; the worth of awards as a plain sum. No condition.
-/
import Derived.Test.YtakladjlnkojjaaCG59
namespace Go.Proofs.Ytakladjlnkojjaa.Ax
open Go Go.RowKit
set_option linter.unusedSimpArgs false

/-- From A, but the bidders of s from B. -/
def mixL : Nat → List Int → List Int → List Int
  | s, a :: A, b :: B => (if s % 2 = 1 then b else a) :: mixL (s / 2) A B
  | _, _, _ => []
theorem mixL_len : ∀ {s : Nat} {A B : List Int}, A.length = B.length → (mixL s A B).length = A.length
  | s, [], [], _ => by simp [mixL]
  | s, a :: A, b :: B, h => by simp only [mixL, List.length_cons] at h ⊢; rw [mixL_len (by omega)]
theorem mixL_at : ∀ {s : Nat} {A B : List Int} {i : Nat}, A.length = B.length → i < A.length → (mixL s A B).getD i 0 = if s / 2 ^ i % 2 = 1 then B.getD i 0 else A.getD i 0
  | s, [], _, i, _, hi => by simp at hi
  | s, a :: A, [], i, h, _ => by simp at h
  | s, a :: A, b :: B, 0, h, _ => by simp [mixL]
  | s, a :: A, b :: B, i + 1, h, hi => by
    simp only [List.length_cons] at h hi
    simp only [mixL, List.getD_cons_succ]
    rw [mixL_at (by omega) (by omega), Nat.div_div_eq_div_mul, Nat.pow_succ, Nat.mul_comm 2]

/-- There is room for thing x with bidder i, when some bidders are changed between the two. -/
def exOk (A B : List Int) (i : Nat) (x : Int) : Bool := (List.range 8).any fun s => isAwd (mixL s A B) && isAwd ((mixL s B A).set i x) && decide (s / 2 ^ i % 2 = 0)
def exAll (n w : Nat) : Bool := (allL (-1) ((w : Int) - 1) n).all fun A => !isAwd A || (allL (-1) ((w : Int) - 1) n).all fun B => !isAwd B || (List.range n).all fun i => decide (B.getD i 0 ≠ -1) || (List.range w).all fun x => decide (0 ≤ pos A (x : Int)) || exOk A B i (x : Int)
set_option maxRecDepth 100000 in
theorem exAll_all : ∀ n ∈ [1, 2, 3], ∀ w ∈ [1, 2, 3], exAll n w = true := by decide +kernel

theorem blocks_mem_of {L : List (List Int)} {l0 : List Int} (h : l0 ∈ L) : ∀ {m : Nat} {x y : Int}, x ≤ y → y < x + m → y :: l0 ∈ blocks L x m
  | 0, x, y, h1, h2 => by omega
  | m + 1, x, y, h1, h2 => by
    simp only [blocks, List.mem_append, List.mem_map]
    by_cases e : y = x
    · exact .inl ⟨l0, h, by rw [e]⟩
    · exact .inr (blocks_mem_of h (by omega) (by omega))
theorem allL_mem_of {low high : Int} : ∀ {n : Nat} {l : List Int}, l.length = n → (∀ x ∈ l, low ≤ x ∧ x ≤ high) → l ∈ allL low high n
  | 0, [], _, _ => by simp [allL]
  | n + 1, y :: l, h, hx => by
    have hy := hx y (by simp)
    exact blocks_mem_of (allL_mem_of (by simpa using h) fun z hz => hx z (by simp [hz])) hy.1 (by omega)

/-- An award of n bidders and w things. -/
structure Awd (n w : Nat) (l : List Int) : Prop where
  len : l.length = n
  bd : ∀ x ∈ l, -1 ≤ x ∧ x ≤ (w : Int) - 1
  aw : isAwd l = true
theorem Awd.mem {n w : Nat} {l : List Int} (h : Awd n w l) : l ∈ allL (-1) ((w : Int) - 1) n := allL_mem_of h.len h.bd
theorem Awd.at {n w : Nat} {l : List Int} (h : Awd n w l) {i : Nat} (hi : i < n) : -1 ≤ l.getD i 0 ∧ l.getD i 0 ≤ (w : Int) - 1 := by
  have := h.len
  rw [getD_at (by omega)]; exact h.bd _ (List.getElem_mem _)

theorem exch {n w : Nat} (hn : 1 ≤ n ∧ n ≤ 3) (hw : 1 ≤ w ∧ w ≤ 3) {A B : List Int} (hA : Awd n w A) (hB : Awd n w B) {i : Nat} (hi : i < n) (hb : B.getD i 0 = -1) {x : Nat} (hx : x < w) (ha : pos A (x : Int) < 0) :
    ∃ s, s / 2 ^ i % 2 = 0 ∧ isAwd (mixL s A B) = true ∧ isAwd ((mixL s B A).set i x) = true := by
  have h := exAll_all n (by simp; omega) w (by simp; omega)
  simp only [exAll, List.all_eq_true] at h
  have h1 := h A hA.mem
  rw [hA.aw] at h1
  simp only [Bool.not_true, Bool.false_or, List.all_eq_true] at h1
  have h2 := h1 B hB.mem
  rw [hB.aw] at h2
  simp only [Bool.not_true, Bool.false_or, List.all_eq_true] at h2
  have h3 := h2 i (by simpa using hi)
  rw [hb] at h3
  simp only [ne_eq, not_true_eq_false, decide_false, Bool.false_or, List.all_eq_true] at h3
  have h4 := h3 x (by simpa using hx)
  have h5 : ¬ 0 ≤ pos A (x : Int) := by omega
  simp only [h5, decide_false, Bool.false_or, exOk, List.any_eq_true, Bool.and_eq_true, decide_eq_true_eq] at h4
  obtain ⟨s, _, ⟨h6, h7⟩, h8⟩ := h4
  exact ⟨s, h8, h6, h7⟩

/-- The worth of an award whose first bidder is number k. -/
def Wl (V : Nat → Int → Int) : Nat → List Int → Int
  | _, [] => 0
  | k, y :: l => (if 0 ≤ y then V k y else 0) + Wl V (k + 1) l
theorem Wl_app {V : Nat → Int → Int} : ∀ {k : Nat} {l m : List Int}, Wl V k (l ++ m) = Wl V k l + Wl V (k + l.length) m
  | k, [], m => by simp [Wl]
  | k, y :: l, m => by
    simp only [List.cons_append, Wl, List.length_cons]
    rw [Wl_app, show k + 1 + l.length = k + (l.length + 1) by omega]; omega
theorem Wl_mix {V : Nat → Int → Int} : ∀ {s k : Nat} {A B : List Int}, A.length = B.length → Wl V k (mixL s A B) + Wl V k (mixL s B A) = Wl V k A + Wl V k B
  | s, k, [], [], _ => by simp [mixL, Wl]
  | s, k, a :: A, b :: B, h => by
    simp only [List.length_cons] at h
    have := Wl_mix (V := V) (s := s / 2) (k := k + 1) (A := A) (B := B) (by omega)
    simp only [mixL, Wl]
    by_cases hs : s % 2 = 1
    · rw [if_pos hs, if_pos hs]; omega
    · rw [if_neg hs, if_neg hs]; omega
theorem Wl_set {V : Nat → Int → Int} {x : Int} : ∀ {k i : Nat} {l : List Int}, i < l.length → Wl V k (l.set i x) = Wl V k l - (if 0 ≤ l.getD i 0 then V (k + i) (l.getD i 0) else 0) + (if 0 ≤ x then V (k + i) x else 0)
  | k, i, [], h => by simp at h
  | k, 0, y :: l, h => by simp only [List.set_cons_zero, Wl, List.getD_cons_zero, Nat.add_zero]; omega
  | k, i + 1, y :: l, h => by
    simp only [List.set_cons_succ, Wl, List.getD_cons_succ]
    rw [Wl_set (by simpa using h), show k + 1 + i = k + (i + 1) by omega]; omega
theorem Wl_bd {V : Nat → Int → Int} {n w : Nat} {c : Int} (hV : ∀ i k, i < n → 0 ≤ k → k < (w : Int) → 0 ≤ V i k ∧ V i k ≤ c) (hc : 0 ≤ c) : ∀ {k : Nat} {l : List Int}, k + l.length ≤ n → (∀ x ∈ l, x ≤ (w : Int) - 1) → 0 ≤ Wl V k l ∧ Wl V k l ≤ c * l.length
  | k, [], _, _ => by simp [Wl]
  | k, y :: l, h, hx => by
    simp only [List.length_cons] at h
    have h1 := Wl_bd hV hc (k := k + 1) (l := l) (by omega) fun z hz => hx z (by simp [hz])
    have h2 := hx y (by simp)
    simp only [Wl, List.length_cons]
    rw [show c * ((l.length + 1 : Nat) : Int) = c * l.length + c by rw [Int.natCast_add, Int.mul_add]; simp]
    by_cases hy : 0 ≤ y
    · have := hV k y (by omega) hy (by omega)
      rw [if_pos hy]; omega
    · rw [if_neg hy]; omega
theorem Wl_congr {V V' : Nat → Int → Int} : ∀ {k : Nat} {l : List Int}, (∀ i, i < l.length → 0 ≤ l.getD i 0 → V (k + i) (l.getD i 0) = V' (k + i) (l.getD i 0)) → Wl V k l = Wl V' k l
  | k, [], _ => rfl
  | k, y :: l, h => by
    have h0 := h 0 (by simp)
    simp only [List.getD_cons_zero, Nat.add_zero] at h0
    simp only [Wl]
    rw [Wl_congr (V := V) (V' := V') (k := k + 1) (l := l) fun i hi hy => by
      have := h (i + 1) (by simpa using hi) (by simpa using hy)
      simpa [Nat.add_assoc, Nat.add_comm 1] using this]
    by_cases hy : 0 ≤ y
    · rw [if_pos hy, if_pos hy, h0 hy]
    · rw [if_neg hy, if_neg hy]

theorem awTo_Wl {xss : List (Bool × List Int)} (h : rectB xss 4 4 1000 = true) {l : List Int} (hl : l.length = xss.length) (hb : ∀ x ∈ l, x ≤ (wid xss : Int) - 1) : ∀ {k : Nat}, k ≤ l.length → awTo xss l k = Wl (ent xss) 0 (l.take k)
  | 0, _ => by simp [awTo, Wl]
  | k + 1, hk => by
    have hV : ∀ i j, i < xss.length → 0 ≤ j → j < (wid xss : Int) → 0 ≤ ent xss i j ∧ ent xss i j ≤ 1000 := fun i j hi hj hj' => by
      have := ent_bd h hi (k := j.toNat) (by omega)
      rwa [show ((j.toNat : Nat) : Int) = j by omega] at this
    have hl4 := (rect_len h).1
    have ih := awTo_Wl h hl hb (k := k) (by omega)
    have h1 := Wl_bd (V := ent xss) hV (by omega) (k := 0) (l := l.take (k + 1)) (by rw [List.length_take]; omega) fun x hx => hb x (List.mem_of_mem_take hx)
    rw [List.take_succ_eq_append_getElem (by omega), Wl_app, ← ih] at h1 ⊢
    have e : (0 : Nat) + (l.take k).length = k := by rw [List.length_take]; omega
    rw [e] at h1 ⊢
    simp only [Wl, List.length_append, List.length_take, List.length_cons, List.length_nil] at h1 ⊢
    rw [awTo, getD_at (show k < l.length by omega)]
    split
    · rename_i hy
      rw [if_pos hy] at h1
      rw [wrapI (by omega) (by omega)]; omega
    · omega

theorem bestO_max {W : List Int → Int} {ok : List Int → Bool} : ∀ {L : List (List Int)} {b l : List Int}, bestO W ok L = some b → l ∈ L → ok l = true → W l ≤ W b
  | [], b, l, h, hl, _ => by simp at hl
  | a :: L, b, l, h, hl, ho => by
    simp only [bestO] at h
    have key : ∀ c, bestO W ok L = some c → ok a = true → W a ≤ W b ∧ W c ≤ W b := fun c hc ha => by
      rw [if_pos ha, hc] at h
      simp only [comb] at h
      split at h
      · simp at h; subst h; omega
      · simp at h; subst h; omega
    rcases List.mem_cons.1 hl with rfl | hl
    · rw [if_pos ho] at h
      cases hr : bestO W ok L with
      | none => rw [hr, comb_none] at h; simp at h; subst h; exact Int.le_refl _
      | some c => exact (key c hr ho).1
    · cases hr : bestO W ok L with
      | none =>
        exfalso
        have : ∀ {L : List (List Int)}, bestO W ok L = none → ∀ l ∈ L, ok l = false := by
          intro L
          induction L with
          | nil => simp
          | cons d L ih =>
            intro hn l hl
            simp only [bestO] at hn
            by_cases hd : ok d = true
            · rw [if_pos hd] at hn
              cases hq : bestO W ok L <;> rw [hq] at hn <;> simp [comb] at hn
              split at hn <;> simp at hn
            · rw [if_neg hd] at hn
              rcases List.mem_cons.1 hl with rfl | hl
              · simpa using hd
              · exact ih (by cases hq : bestO W ok L <;> rw [hq] at hn <;> simp [comb] at hn) l hl
        rw [this hr l hl] at ho; simp at ho
      | some c =>
        have hc := bestO_max hr hl ho
        by_cases ha : ok a = true
        · have := (key c hr ha).2; omega
        · rw [if_neg ha, hr] at h
          simp only [comb] at h
          simp at h; subst h; exact hc

end Go.Proofs.Ytakladjlnkojjaa.Ax
