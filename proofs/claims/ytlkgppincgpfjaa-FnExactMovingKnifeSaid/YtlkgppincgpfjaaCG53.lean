/-
  The first best one of some lists; the same by a search from the front. No condition.
-/
import Derived.Test.YtlkgppincgpfjaaCG51
import Derived.Test.YtlkgppincgpfjaaCB2
namespace Go.Proofs.Ytlkgppincgpfjaa.Ax
open Go Go.RowKit

/-- Of two the better one; the first, where they are as good. -/
def comb (W : List Int → Int) : Option (List Int) → Option (List Int) → Option (List Int)
  | none, b => b
  | some a, none => some a
  | some a, some b => if W b > W a then some b else some a

theorem comb_none {W : List Int → Int} {a : Option (List Int)} : comb W a none = a := by cases a <;> rfl

theorem comb_assoc {W : List Int → Int} (a b c : Option (List Int)) : comb W (comb W a b) c = comb W a (comb W b c) := by
  cases a with
  | none => rfl
  | some a => cases b with
    | none => rfl
    | some b => cases c with
      | none => simp only [comb_none]
      | some c =>
        simp only [comb]
        by_cases h1 : W b > W a <;> by_cases h2 : W c > W b <;> by_cases h3 : W c > W a <;> simp [h1, h2, h3] <;> omega

/-- The first best one of those that are good. -/
def bestO (W : List Int → Int) (ok : List Int → Bool) : List (List Int) → Option (List Int)
  | [] => none
  | l :: L => comb W (if ok l = true then some l else none) (bestO W ok L)

theorem bestO_app {W : List Int → Int} {ok : List Int → Bool} : ∀ {A B : List (List Int)}, bestO W ok (A ++ B) = comb W (bestO W ok A) (bestO W ok B)
  | [], B => rfl
  | l :: A, B => by simp only [List.cons_append, bestO, bestO_app, comb_assoc]

/-- One more. -/
def pick1 (W : List Int → Int) (ok : List Int → Bool) (o : Option (List Int)) (l : List Int) : Option (List Int) := comb W o (if ok l = true then some l else none)

theorem bestO_take {W : List Int → Int} {ok : List Int → Bool} {L : List (List Int)} {k : Nat} (h : k < L.length) : bestO W ok (L.take (k + 1)) = pick1 W ok (bestO W ok (L.take k)) L[k] := by
  rw [List.take_succ_eq_append_getElem h, bestO_app]
  simp only [bestO, pick1, comb_none]

theorem bestO_mem {W : List Int → Int} {ok : List Int → Bool} : ∀ {L : List (List Int)} {l : List Int}, bestO W ok L = some l → l ∈ L ∧ ok l = true
  | [], l, h => by simp [bestO] at h
  | x :: L, l, h => by
    simp only [bestO] at h
    have key : ∀ {a b : Option (List Int)}, comb W a b = some l → a = some l ∨ b = some l := by
      intro a b
      cases a with
      | none => exact .inr
      | some a => cases b with
        | none => exact .inl
        | some b =>
          simp only [comb]
          split
          · exact .inr
          · exact .inl
    rcases key h with h | h
    · split at h
      · simp only [Option.some.injEq] at h; subst h; exact ⟨by simp, by assumption⟩
      · simp at h
    · obtain ⟨h1, h2⟩ := bestO_mem h; exact ⟨by simp [h1], h2⟩

theorem bestO_none {W : List Int → Int} {ok : List Int → Bool} : ∀ {L : List (List Int)}, (∀ l ∈ L, ok l = false) → bestO W ok L = none
  | [], _ => rfl
  | x :: L, h => by
    simp only [bestO, h x (by simp), Bool.false_eq_true, if_false]
    rw [bestO_none fun l hl => h l (by simp [hl])]; rfl

/-- The search: 'list' is continued by r numbers from low on (m: how many numbers there are); 'sk' says which number is passed over. -/
def bestS (W : List Int → Int) (sk : List Int → Int → Bool) (low : Int) (m : Nat) : Nat → List Int → Option (List Int)
  | 0, l => some l
  | r + 1, l => (List.range m).foldl (fun o (i : Nat) => if sk l (low + i) = true then o else comb W o (bestS W sk low m r (l ++ [low + i]))) none

theorem foldl_comb {W : List Int → Int} {f : Nat → Option (List Int)} {g : Option (List Int) → Nat → Option (List Int)} (hg : ∀ o i, g o i = comb W o (f i)) : ∀ {l : List Nat} {o : Option (List Int)}, l.foldl g o = comb W o (l.foldl g none)
  | [], o => by simp [comb_none]
  | i :: l, o => by
    simp only [List.foldl_cons, hg]
    rw [foldl_comb hg (l := l) (o := comb W o (f i)), foldl_comb hg (l := l) (o := comb W none (f i)), comb_assoc]; rfl

/-- Both searches find the same. -/
theorem bestS_eq {W : List Int → Int} {ok : List Int → Bool} {sk : List Int → Int → Bool} {low high : Int} {n : Nat} (hlh : low ≤ high + 1) (hsk : ∀ l x m, ok l = true → l.length < n → sk l x = true → ok (l ++ x :: m) = false) (hkp : ∀ l x, ok l = true → l.length < n → sk l x = false → ok (l ++ [x]) = true) :
    ∀ (r : Nat) (l : List Int), ok l = true → l.length + r = n → bestS W sk low (high + 1 - low).toNat r l = bestO W ok ((allL low high r).map (l ++ ·))
  | 0, l, hl, _ => by simp [bestS, allL, bestO, hl, comb]
  | r + 1, l, hl, hn => by
    have ih := bestS_eq (W := W) hlh hsk hkp r
    simp only [bestS, allL]
    -- the blocks, from number i on
    have key : ∀ (m i : Nat), ((List.range' i m).foldl (fun o (i : Nat) => if sk l (low + i) = true then o else comb W o (bestS W sk low (high + 1 - low).toNat r (l ++ [low + i]))) none) = bestO W ok ((blocks (allL low high r) (low + i) m).map (l ++ ·)) := by
      intro m
      induction m with
      | zero => intro i; simp [blocks, bestO]
      | succ m im =>
        intro i
        rw [List.range'_succ, List.foldl_cons, foldl_comb (W := W) (f := fun i => if sk l (low + i) = true then none else bestS W sk low (high + 1 - low).toNat r (l ++ [low + i])) (fun o i => by split <;> simp [comb_none])]
        rw [im (i + 1), blocks, List.map_append, bestO_app]
        congr 1
        · rw [List.map_map]
          have e : ((l ++ ·) ∘ ((low + (i : Int)) :: ·)) = fun l' => l ++ (low + (i : Int)) :: l' := rfl
          rw [e]
          by_cases hs : sk l (low + i) = true
          · rw [if_pos hs, bestO_none]
            intro l' hl'
            obtain ⟨l0, _, rfl⟩ := List.mem_map.1 hl'
            exact hsk l _ l0 hl (by omega) hs
          · rw [if_neg hs]
            have hs' : sk l (low + i) = false := by simpa using hs
            have : comb W none (bestS W sk low (high + 1 - low).toNat r (l ++ [low + (i : Int)])) = bestS W sk low (high + 1 - low).toNat r (l ++ [low + (i : Int)]) := rfl
            rw [this, ih (l ++ [low + (i : Int)]) (hkp l _ hl (by omega) hs') (by simp; omega)]
            congr 1
            exact List.map_congr_left fun l' _ => by simp
        · congr 3; push_cast; omega
    have := key (high + 1 - low).toNat 0
    rw [← List.range_eq_range'] at this
    rw [this]
    congr 2
    simp

/-! The awards. -/

/-- 'No thing twice; the bidder wo gets nothing', of a list that may go on. -/
def okP (wo : Int) (l : List Int) : Bool := isAwd l && !(decide (0 ≤ wo) && decide (wo < l.length) && decide (0 ≤ l.getD wo.toNat 0))
/-- Number x may not come next. -/
def skP (wo : Int) (l : List Int) (x : Int) : Bool := decide (0 ≤ x) && (decide (0 ≤ pos l x) || decide ((l.length : Int) = wo))

theorem getD_app {l m : List Int} {i : Nat} (h : i < l.length) : (l ++ m).getD i 0 = l.getD i 0 := by
  rw [List.getD_eq_getElem?_getD, List.getD_eq_getElem?_getD, List.getElem?_append_left h]

theorem awAt_app {l m : List Int} {i : Nat} (h : i < l.length) : awAt (l ++ m) i = awAt l i := by
  unfold awAt
  rw [getD_app h, List.take_append_of_le_length (by omega)]

theorem awAt_last {l : List Int} {x : Int} {m : List Int} : awAt (l ++ x :: m) l.length = !(decide (0 ≤ x) && decide (0 ≤ pos l x)) := by
  unfold awAt
  rw [List.take_append_of_le_length (Nat.le_refl _), List.take_length]
  simp [List.getD_eq_getElem?_getD]

theorem isAwd_app {l : List Int} {x : Int} : isAwd (l ++ [x]) = (isAwd l && !(decide (0 ≤ x) && decide (0 ≤ pos l x))) := by
  unfold isAwd allR
  rw [List.length_append, List.length_singleton, List.range_succ, List.all_append]
  congr 1
  · rw [Bool.eq_iff_iff, List.all_eq_true, List.all_eq_true]
    exact ⟨fun h i hi => by rw [← awAt_app (m := [x]) (by simpa using hi)]; exact h i hi, fun h i hi => by rw [awAt_app (by simpa using hi)]; exact h i hi⟩
  · simp [awAt_last]

theorem okP_nil {wo : Int} : okP wo [] = true := by
  simp only [okP, Bool.and_eq_true, Bool.not_eq_true']
  refine ⟨rfl, ?_⟩
  simp only [List.length_nil, Bool.and_eq_false_iff, decide_eq_false_iff_not]
  omega

theorem okP_keep {wo : Int} {l : List Int} {x : Int} (h : okP wo l = true) (hs : skP wo l x = false) : okP wo (l ++ [x]) = true := by
  simp only [okP, skP, isAwd_app, Bool.and_eq_true, Bool.not_eq_true', Bool.and_eq_false_iff, Bool.or_eq_false_iff, decide_eq_false_iff_not, List.length_append, List.length_singleton] at h hs ⊢
  obtain ⟨h1, h2⟩ := h
  refine ⟨⟨h1, ?_⟩, ?_⟩
  · rcases hs with hs | ⟨hs, _⟩
    · exact .inl hs
    · exact .inr hs
  · by_cases h0 : 0 ≤ wo
    · by_cases hw : wo < l.length
      · rw [getD_app (by omega)]
        rcases h2 with (h2 | h2) | h2
        · exact (h2 h0).elim
        · exact (h2 hw).elim
        · exact .inr h2
      · by_cases he : wo = l.length
        · right
          subst he
          rcases hs with hs | ⟨_, hs⟩
          · simp [List.getD_eq_getElem?_getD]; omega
          · exact (hs rfl).elim
        · left; right; push_cast; omega
    · exact .inl (.inl h0)

theorem okP_skip {wo : Int} {l : List Int} {x : Int} {m : List Int} (hs : skP wo l x = true) : okP wo (l ++ x :: m) = false := by
  simp only [skP, Bool.and_eq_true, Bool.or_eq_true, decide_eq_true_eq] at hs
  obtain ⟨hx, hs⟩ := hs
  simp only [okP, Bool.and_eq_false_iff, Bool.not_eq_false', Bool.and_eq_true, decide_eq_true_eq]
  rcases hs with hs | hs
  · left
    exact allR_no (k := l.length) (by simp) (by rw [awAt_last]; simp [hx, hs])
  · right
    subst hs
    refine ⟨⟨by omega, by simp; omega⟩, ?_⟩
    simp [List.getD_eq_getElem?_getD, hx]

theorem bestS_award {W : List Int → Int} {wo high : Int} {n : Nat} (hh : -1 ≤ high + 1) : bestS W (skP wo) (-1) (high + 1 - -1).toNat n [] = bestO W (okP wo) (allL (-1) high n) := by
  have := bestS_eq (W := W) (ok := okP wo) (sk := skP wo) (low := -1) (high := high) (n := n) hh (fun l x m _ _ hs => okP_skip hs) (fun l x h _ hs => okP_keep h hs) n [] okP_nil (by simp)
  rw [this]; simp

end Go.Proofs.Ytlkgppincgpfjaa.Ax
