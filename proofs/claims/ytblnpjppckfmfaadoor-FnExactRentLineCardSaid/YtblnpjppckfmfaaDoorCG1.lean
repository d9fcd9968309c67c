/-
  Contracts: SharesOk (both programs). No condition.
-/
import Derived.Test.YtblnpjppckfmfaaDoorCB2
import Derived.Shelf.Bits.Mul64
import Derived.Test.YtblnpjppckfmfaaDoorCK4
namespace Go.Proofs.YtblnpjppckfmfaaDoor.Ax
open Go Go.RowKit
set_option linter.unusedSimpArgs false

theorem points_facts {xss : List (Bool × List Int)} (h : pointsB xss = true) : xss.length = 2 ∧ rectB xss 2 6 100 = true := by
  by_cases hl : xss.length = 2
  · refine ⟨hl, ?_⟩
    rw [pointsB_rect hl] at h
    simp only [Bool.and_eq_true] at h
    exact h.1
  · rw [pointsB_ne hl] at h; simp at h

/-- A valid fraction from 0 to 1. -/
def partB (f : Int × Int) : Bool := fracOk f && inR 0 f.2 f.1
noncomputable def mPart : List AV → Option AV := mk (fun _ => True) (fun (p : (Int) × (Int)) => [frac (p.1, p.2)]) (fun p => bool (partB (p.1, p.2)))
theorem mPart_at (t : Int) (b : Int) : mPart [.agg [.v (.int .i64 t), .v (.int .i64 b)]] = some (.v (.bool (partB (t, b)))) :=
  mk_eq (enc := fun (p : (Int) × (Int)) => [frac (p.1, p.2)]) (x := (t, b)) (by rintro ⟨a0, a1⟩ ⟨b0, b1⟩ h; simp [ints, intss, int, bool, row, frac, fracs, map_int_inj, map_row_inj, frac_inj, map_frac_inj] at h; simp [h]) trivial

def sharesB (xss : List (Bool × List Int)) (fs : List (Int × Int)) : Bool := pointsB xss && decide (fs.length = wid xss) && fs.all partB

noncomputable def mShares : List AV → Option AV := mk (fun _ => True) (fun (p : (Bool) × (List (Bool × List Int)) × (Bool) × (List (Int × Int))) => [intss p.1 p.2.1, fracs p.2.2.1 p.2.2.2]) (fun p => bool (sharesB p.2.1 p.2.2.2))
theorem mShares_at (nl : Bool) (xss : List (Bool × List Int)) (nl' : Bool) (fs : List (Int × Int)) : mShares [.sl nl 1 (xss.map row), .sl nl' 2 (fs.map frac)] = some (.v (.bool (sharesB xss fs))) :=
  mk_eq (enc := fun (p : (Bool) × (List (Bool × List Int)) × (Bool) × (List (Int × Int))) => [intss p.1 p.2.1, fracs p.2.2.1 p.2.2.2]) (x := (nl, xss, nl', fs)) (by rintro ⟨a0, a1, a2, a3⟩ ⟨b0, b1, b2, b3⟩ h; simp [ints, intss, int, bool, row, frac, fracs, map_int_inj, map_row_inj, frac_inj, map_frac_inj] at h; simp [h]) trivial

theorem all_allF {fs : List (Int × Int)} {p : Int × Int → Bool} : fs.all p = allR fs.length fun i => p (fs.getD i (0, 0)) := by
  unfold allR
  rw [Bool.eq_iff_iff]; simp only [List.all_eq_true, List.mem_range]
  constructor
  · intro h i hi
    have : fs.getD i (0, 0) = fs[i] := by simp [List.getD_eq_getElem?_getD, hi]
    rw [this]; exact h _ (List.getElem_mem _)
  · intro h x hx
    obtain ⟨i, hi, rfl⟩ := List.getElem_of_mem hx
    have := h i hi
    have e : fs.getD i (0, 0) = fs[i] := by simp [List.getD_eq_getElem?_getD, hi]
    rwa [e] at this

end Go.Proofs.YtblnpjppckfmfaaDoor.Ax

/-
  Contracts: math/bits.Mul, slices.Repeat of ints. No condition.
-/
namespace Go.Proofs.YtblnpjppckfmfaaDoor.Ax
open Go Go.RowKit
set_option linter.unusedSimpArgs false

noncomputable def mMul64 : List AV → Option AV := mk (fun p => p.1 < 18446744073709551616 ∧ p.2 < 18446744073709551616) (fun (p : Nat × Nat) => [.v (.int .u64 (p.1 : Int)), .v (.int .u64 (p.2 : Int))])
  (fun p => .tup [.v (.int .u64 ((p.1 * p.2 / 18446744073709551616 : Nat) : Int)), .v (.int .u64 ((p.1 * p.2 % 18446744073709551616 : Nat) : Int))])
theorem mMul64_at (x y : Nat) (h : x < 18446744073709551616 ∧ y < 18446744073709551616) : mMul64 [.v (.int .u64 (x : Int)), .v (.int .u64 (y : Int))] = some (.tup [.v (.int .u64 ((x * y / 18446744073709551616 : Nat) : Int)), .v (.int .u64 ((x * y % 18446744073709551616 : Nat) : Int))]) :=
  mk_eq (enc := fun (p : Nat × Nat) => [.v (.int .u64 (p.1 : Int)), .v (.int .u64 (p.2 : Int))]) (x := (x, y)) (by rintro ⟨a, b⟩ ⟨c, d⟩ h; simp at h; simp [h]) h

noncomputable def mMul : List AV → Option AV := mMul64
theorem mMul_at (x y : Nat) (h : x < 18446744073709551616 ∧ y < 18446744073709551616) : mMul [.v (.int .u64 (x : Int)), .v (.int .u64 (y : Int))] = some (.tup [.v (.int .u64 ((x * y / 18446744073709551616 : Nat) : Int)), .v (.int .u64 ((x * y % 18446744073709551616 : Nat) : Int))]) := mMul64_at x y h

/-- x so far, zeros behind. -/
def repTo (x : Int) (n m : Nat) : List AV := List.replicate m (int x) ++ List.replicate (n - m) (int 0)
theorem repTo_len {x : Int} {n m : Nat} (h : m ≤ n) : (repTo x n m).length = n := by simp [repTo]; omega
theorem repTo_scal {x : Int} {n m : Nat} : allS (repTo x n m) = true := by
  rw [allS, List.all_eq_true]
  intro e he
  simp only [repTo, List.mem_append, List.mem_replicate] at he
  rcases he with ⟨_, rfl⟩ | ⟨_, rfl⟩ <;> rfl
theorem repTo_step {x : Int} {n m k : Nat} (_h : m + k ≤ n) (hk : k ≤ m) : (repTo x n m).take m ++ (viewEs (repTo x n m) 0 m).take k ++ (repTo x n m).drop (m + k) = repTo x n (m + k) := by
  have e1 : (repTo x n m).take m = List.replicate m (int x) := by simp [repTo]
  have e2 : viewEs (repTo x n m) 0 m = List.replicate m (int x) := by simp [viewEs, e1]
  have e3 : (repTo x n m).drop (m + k) = List.replicate (n - (m + k)) (int 0) := by
    simp [repTo, List.drop_append]; omega
  rw [e1, e2, e3, List.take_replicate, Nat.min_eq_left hk]
  simp [repTo, List.replicate_append_replicate]

theorem rep1 {a : AV} {n : Nat} : List.replicate (min 1 n) a = List.take (min 1 n) [a] := by
  rcases Nat.eq_zero_or_pos n with rfl | h
  · simp
  · rw [Nat.min_eq_left h]; simp

noncomputable def mRepeatI : List AV → Option AV := mk (fun p => p.2.2 ≤ 1000) (fun (p : Bool × Int × Nat) => [ints p.1 [p.2.1], int (p.2.2 : Int)]) (fun p => ints false (List.replicate p.2.2 p.2.1))
theorem mRepeatI_at (nl : Bool) (x : Int) (n : Nat) (h : n ≤ 1000) : mRepeatI [.sl nl 1 [.v (.int .i64 x)], .v (.int .i64 (n : Int))] = some (.sl false 1 ((List.replicate n x).map int)) :=
  mk_eq (enc := fun (p : Bool × Int × Nat) => [ints p.1 [p.2.1], int (p.2.2 : Int)]) (x := (nl, x, n)) (by rintro ⟨a, b, c⟩ ⟨d, e, f⟩ h; simp [ints, int] at h; obtain ⟨⟨rfl, rfl⟩, h⟩ := h; exact (by omega : c = f) ▸ rfl) h

end Go.Proofs.YtblnpjppckfmfaaDoor.Ax

/-
  All lists of a length over a range of numbers, in lexicographic order; the list behind one of them. No condition.
-/
namespace Go.Proofs.YtblnpjppckfmfaaDoor.Ax
open Go Go.RowKit

/-- low, low + 1, .. : m numbers; behind each of them the lists of L. -/
def blocks (L : List (List Int)) (x : Int) : Nat → List (List Int)
  | 0 => []
  | m + 1 => L.map (x :: ·) ++ blocks L (x + 1) m

/-- All lists of length n over low .. high. -/
def allL (low high : Int) : Nat → List (List Int)
  | 0 => [[]]
  | n + 1 => blocks (allL low high n) low (high + 1 - low).toNat

/-- The next list. -/
def next (low high : Int) : List Int → Option (List Int)
  | [] => none
  | x :: l => match next low high l with
    | some l' => some (x :: l')
    | none => if x < high then some ((x + 1) :: List.replicate l.length low) else none

theorem next_last {low high : Int} : ∀ n, next low high (List.replicate n high) = none
  | 0 => rfl
  | n + 1 => by rw [List.replicate_succ, next, next_last n]; simp

theorem next_step {low high x : Int} (hx : x < high) {m : Nat} : ∀ (p : List Int), next low high (p ++ x :: List.replicate m high) = some (p ++ (x + 1) :: List.replicate m low)
  | [] => by simp [next, next_last, hx]
  | y :: p => by simp only [List.cons_append, next, next_step hx p]

theorem next_len {low high : Int} : ∀ {l l' : List Int}, next low high l = some l' → l'.length = l.length
  | [], l', h => by simp [next] at h
  | x :: l, l', h => by
    simp only [next] at h
    split at h
    · rename_i l2 h2
      simp only [Option.some.injEq] at h; subst h
      simp [next_len h2]
    · split at h
      · simp only [Option.some.injEq] at h; subst h; simp
      · simp at h

/-- 'Behind each list of L stands its next one.' -/
def Ch (low high : Int) (L : List (List Int)) : Prop := ∀ (k : Nat) (l : List Int), L[k]? = some l → L[k + 1]? = next low high l

theorem blocks_ch {low high : Int} {L : List (List Int)} {n : Nat} (hL : Ch low high L) (h0 : L[0]? = some (List.replicate n low)) (hlen : ∀ l ∈ L, l.length = n) :
    ∀ (m : Nat) (x : Int), x + (m : Int) = high + 1 → Ch low high (blocks L x m)
  | 0, x, _ => by intro k l h; simp [blocks] at h
  | m + 1, x, hx => by
    intro k l h
    have ih := blocks_ch hL h0 hlen m (x + 1) (by omega)
    simp only [blocks] at h ⊢
    have hll : (L.map (x :: ·)).length = L.length := by simp
    by_cases hk : k < L.length
    · rw [List.getElem?_append_left (by rw [hll]; exact hk)] at h
      rw [List.getElem?_map, Option.map_eq_some_iff] at h
      obtain ⟨l0, hl0, rfl⟩ := h
      have hn := hL k l0 hl0
      by_cases hk1 : k + 1 < L.length
      · rw [List.getElem?_append_left (by rw [hll]; exact hk1), List.getElem?_map]
        rw [List.getElem?_eq_getElem hk1] at hn ⊢
        simp only [next, ← hn, Option.map_some]
      · have hnone : next low high l0 = none := by rw [← hn]; exact List.getElem?_eq_none (by omega)
        have hl0n := hlen l0 (List.mem_of_getElem? hl0)
        rw [List.getElem?_append_right (by rw [hll]; omega), hll, show k + 1 - L.length = 0 by omega]
        simp only [next, hnone]
        cases m with
        | zero =>
          rw [if_neg (by omega)]
          simp [blocks]
        | succ m =>
          rw [if_pos (by omega), hl0n]
          simp only [blocks]
          rw [List.getElem?_append_left (by simp; have := (List.getElem?_eq_some_iff.1 h0).1; omega), List.getElem?_map, h0]
          rfl
    · rw [List.getElem?_append_right (by rw [hll]; omega), hll] at h
      rw [List.getElem?_append_right (by rw [hll]; omega), hll, show k + 1 - L.length = k - L.length + 1 by omega]
      exact ih _ l h

theorem blocks_mem {L : List (List Int)} {l : List Int} : ∀ {m : Nat} {x : Int}, l ∈ blocks L x m → ∃ y l0, l = y :: l0 ∧ l0 ∈ L ∧ x ≤ y ∧ y < x + m
  | 0, x, h => by simp [blocks] at h
  | m + 1, x, h => by
    simp only [blocks, List.mem_append, List.mem_map] at h
    rcases h with ⟨l0, h1, rfl⟩ | h
    · exact ⟨x, l0, rfl, h1, Int.le_refl _, by omega⟩
    · obtain ⟨y, l0, h1, h2, h3, h4⟩ := blocks_mem h
      exact ⟨y, l0, h1, h2, by omega, by omega⟩

theorem allL_mem {low high : Int} : ∀ {n : Nat} {l : List Int}, l ∈ allL low high n → l.length = n ∧ ∀ x ∈ l, low ≤ x ∧ x ≤ high
  | 0, l, h => by simp [allL] at h; subst h; simp
  | n + 1, l, h => by
    simp only [allL] at h
    obtain ⟨y, l0, rfl, h2, h3, h4⟩ := blocks_mem h
    obtain ⟨g1, g2⟩ := allL_mem h2
    refine ⟨by simp [g1], fun z hz => ?_⟩
    rcases List.mem_cons.1 hz with rfl | hz
    · omega
    · exact g2 z hz

theorem allL_head {low high : Int} (h : low ≤ high) : ∀ n, (allL low high n)[0]? = some (List.replicate n low)
  | 0 => rfl
  | n + 1 => by
    obtain ⟨m, hm⟩ : ∃ m, (high + 1 - low).toNat = m + 1 := ⟨(high - low).toNat, by omega⟩
    have ih := allL_head h n
    simp only [allL, hm, blocks]
    rw [List.getElem?_append_left (by simp; exact (List.getElem?_eq_some_iff.1 ih).1), List.getElem?_map, ih]
    rfl

theorem allL_ch {low high : Int} (h : low ≤ high) : ∀ n, Ch low high (allL low high n)
  | 0 => by
    intro k l hk
    cases k with
    | zero => simp [allL] at hk ⊢; subst hk; rfl
    | succ k => simp [allL] at hk
  | n + 1 => by
    simp only [allL]
    exact blocks_ch (allL_ch h n) (allL_head h n) (fun l hl => (allL_mem hl).1) _ _ (by omega)

/-- From the end of the list back to the first number that is not the highest. -/
theorem next_at {low high : Int} {l : List Int} {j : Nat} (hj : j < l.length) (hx : l[j] < high) (hd : l.drop (j + 1) = List.replicate (l.length - (j + 1)) high) : next low high l = some (l.take j ++ (l[j] + 1) :: List.replicate (l.length - (j + 1)) low) := by
  have : l = l.take j ++ l[j] :: List.replicate (l.length - (j + 1)) high := by
    rw [← hd]
    conv => lhs; rw [← List.take_append_drop j l, List.drop_eq_getElem_cons hj]
  conv => lhs; rw [this]
  exact next_step hx _

end Go.Proofs.YtblnpjppckfmfaaDoor.Ax

/-
  Contracts: the lists over a range of numbers, one after the other, as the program yields them. No condition.
-/
namespace Go.Proofs.YtblnpjppckfmfaaDoor.Ax
open Go Go.RowKit
set_option linter.unusedSimpArgs false


/-- Behind the search from the end: the first j numbers as they were. -/
def lowTo (low : Int) (l : List Int) (j : Nat) : List Int := l.take j ++ List.replicate (l.length - j) low
theorem lowTo_len {low : Int} {l : List Int} {j : Nat} (h : j ≤ l.length) : (lowTo low l j).length = l.length := by simp [lowTo]; omega

theorem lowTo_set {low v : Int} {l : List Int} {j : Nat} (h : j < l.length) : ((lowTo low l (j + 1)).map int).set j (.v (.int .i64 v)) = (l.take j ++ v :: List.replicate (l.length - (j + 1)) low).map int := by
  have hi : (AV.v (.int .i64 v)) = int v := rfl
  rw [hi, ← List.map_set]
  congr 1
  unfold lowTo
  rw [List.take_succ_eq_append_getElem h, List.append_assoc, List.set_append_right _ _ (by simp; omega)]
  simp [Nat.min_eq_left (Nat.le_of_lt h)]
theorem lowTo_low {low : Int} {l : List Int} {j : Nat} (h : j < l.length) : lowTo low l j = l.take j ++ low :: List.replicate (l.length - (j + 1)) low := by
  unfold lowTo
  rw [show l.length - j = l.length - (j + 1) + 1 by omega, List.replicate_succ]
theorem lowTo_get {low : Int} {l : List Int} {j : Nat} (h : j < l.length) (h' : j < (lowTo low l (j + 1)).length) : (lowTo low l (j + 1))[j] = l[j] := by
  simp only [lowTo, List.getElem_append]
  rw [dif_pos (by simp; omega)]
  simp

end Go.Proofs.YtblnpjppckfmfaaDoor.Ax

/-
  The first best one of some lists; the same by a search from the front. No condition.
-/
namespace Go.Proofs.YtblnpjppckfmfaaDoor.Ax
open Go Go.RowKit

/-- Of two the better one; the first, where they are as good. -/
def comb (W : List Int → Int) : Option (List Int) → Option (List Int) → Option (List Int)
  | none, b => b
  | some a, none => some a
  | some a, some b => if W b > W a then some b else some a

theorem comb_none {W : List Int → Int} {a : Option (List Int)} : comb W a none = a := by cases a <;> rfl

theorem comb_assoc {W : List Int → Int} (a b c : Option (List Int)) : comb W (comb W a b) c = comb W a (comb W b c) := by
  cases a with
  | none => rfl
  | some a => cases b with
    | none => rfl
    | some b => cases c with
      | none => simp only [comb_none]
      | some c =>
        simp only [comb]
        by_cases h1 : W b > W a <;> by_cases h2 : W c > W b <;> by_cases h3 : W c > W a <;> simp [h1, h2, h3] <;> omega

/-- The first best one of those that are good. -/
def bestO (W : List Int → Int) (ok : List Int → Bool) : List (List Int) → Option (List Int)
  | [] => none
  | l :: L => comb W (if ok l = true then some l else none) (bestO W ok L)

theorem bestO_app {W : List Int → Int} {ok : List Int → Bool} : ∀ {A B : List (List Int)}, bestO W ok (A ++ B) = comb W (bestO W ok A) (bestO W ok B)
  | [], B => rfl
  | l :: A, B => by simp only [List.cons_append, bestO, bestO_app, comb_assoc]

/-- One more. -/
def pick1 (W : List Int → Int) (ok : List Int → Bool) (o : Option (List Int)) (l : List Int) : Option (List Int) := comb W o (if ok l = true then some l else none)

theorem bestO_take {W : List Int → Int} {ok : List Int → Bool} {L : List (List Int)} {k : Nat} (h : k < L.length) : bestO W ok (L.take (k + 1)) = pick1 W ok (bestO W ok (L.take k)) L[k] := by
  rw [List.take_succ_eq_append_getElem h, bestO_app]
  simp only [bestO, pick1, comb_none]

theorem bestO_mem {W : List Int → Int} {ok : List Int → Bool} : ∀ {L : List (List Int)} {l : List Int}, bestO W ok L = some l → l ∈ L ∧ ok l = true
  | [], l, h => by simp [bestO] at h
  | x :: L, l, h => by
    simp only [bestO] at h
    have key : ∀ {a b : Option (List Int)}, comb W a b = some l → a = some l ∨ b = some l := by
      intro a b
      cases a with
      | none => exact .inr
      | some a => cases b with
        | none => exact .inl
        | some b =>
          simp only [comb]
          split
          · exact .inr
          · exact .inl
    rcases key h with h | h
    · split at h
      · simp only [Option.some.injEq] at h; subst h; exact ⟨by simp, by assumption⟩
      · simp at h
    · obtain ⟨h1, h2⟩ := bestO_mem h; exact ⟨by simp [h1], h2⟩

theorem bestO_none {W : List Int → Int} {ok : List Int → Bool} : ∀ {L : List (List Int)}, (∀ l ∈ L, ok l = false) → bestO W ok L = none
  | [], _ => rfl
  | x :: L, h => by
    simp only [bestO, h x (by simp), Bool.false_eq_true, if_false]
    rw [bestO_none fun l hl => h l (by simp [hl])]; rfl

/-- The search: 'list' is continued by r numbers from low on (m: how many numbers there are); 'sk' says which number is passed over. -/
def bestS (W : List Int → Int) (sk : List Int → Int → Bool) (low : Int) (m : Nat) : Nat → List Int → Option (List Int)
  | 0, l => some l
  | r + 1, l => (List.range m).foldl (fun o (i : Nat) => if sk l (low + i) = true then o else comb W o (bestS W sk low m r (l ++ [low + i]))) none

theorem foldl_comb {W : List Int → Int} {f : Nat → Option (List Int)} {g : Option (List Int) → Nat → Option (List Int)} (hg : ∀ o i, g o i = comb W o (f i)) : ∀ {l : List Nat} {o : Option (List Int)}, l.foldl g o = comb W o (l.foldl g none)
  | [], o => by simp [comb_none]
  | i :: l, o => by
    simp only [List.foldl_cons, hg]
    rw [foldl_comb hg (l := l) (o := comb W o (f i)), foldl_comb hg (l := l) (o := comb W none (f i)), comb_assoc]; rfl

/-- Both searches find the same. -/
theorem bestS_eq {W : List Int → Int} {ok : List Int → Bool} {sk : List Int → Int → Bool} {low high : Int} {n : Nat} (hlh : low ≤ high + 1) (hsk : ∀ l x m, ok l = true → l.length < n → sk l x = true → ok (l ++ x :: m) = false) (hkp : ∀ l x, ok l = true → l.length < n → sk l x = false → ok (l ++ [x]) = true) :
    ∀ (r : Nat) (l : List Int), ok l = true → l.length + r = n → bestS W sk low (high + 1 - low).toNat r l = bestO W ok ((allL low high r).map (l ++ ·))
  | 0, l, hl, _ => by simp [bestS, allL, bestO, hl, comb]
  | r + 1, l, hl, hn => by
    have ih := bestS_eq (W := W) hlh hsk hkp r
    simp only [bestS, allL]
    -- the blocks, from number i on
    have key : ∀ (m i : Nat), ((List.range' i m).foldl (fun o (i : Nat) => if sk l (low + i) = true then o else comb W o (bestS W sk low (high + 1 - low).toNat r (l ++ [low + i]))) none) = bestO W ok ((blocks (allL low high r) (low + i) m).map (l ++ ·)) := by
      intro m
      induction m with
      | zero => intro i; simp [blocks, bestO]
      | succ m im =>
        intro i
        rw [List.range'_succ, List.foldl_cons, foldl_comb (W := W) (f := fun i => if sk l (low + i) = true then none else bestS W sk low (high + 1 - low).toNat r (l ++ [low + i])) (fun o i => by split <;> simp [comb_none])]
        rw [im (i + 1), blocks, List.map_append, bestO_app]
        congr 1
        · rw [List.map_map]
          have e : ((l ++ ·) ∘ ((low + (i : Int)) :: ·)) = fun l' => l ++ (low + (i : Int)) :: l' := rfl
          rw [e]
          by_cases hs : sk l (low + i) = true
          · rw [if_pos hs, bestO_none]
            intro l' hl'
            obtain ⟨l0, _, rfl⟩ := List.mem_map.1 hl'
            exact hsk l _ l0 hl (by omega) hs
          · rw [if_neg hs]
            have hs' : sk l (low + i) = false := by simpa using hs
            have : comb W none (bestS W sk low (high + 1 - low).toNat r (l ++ [low + (i : Int)])) = bestS W sk low (high + 1 - low).toNat r (l ++ [low + (i : Int)]) := rfl
            rw [this, ih (l ++ [low + (i : Int)]) (hkp l _ hl (by omega) hs') (by simp; omega)]
            congr 1
            exact List.map_congr_left fun l' _ => by simp
        · congr 3; push_cast; omega
    have := key (high + 1 - low).toNat 0
    rw [← List.range_eq_range'] at this
    rw [this]
    congr 2
    simp

/-! The awards. -/

/-- 'No thing twice; the bidder wo gets nothing', of a list that may go on. -/
def okP (wo : Int) (l : List Int) : Bool := isAwd l && !(decide (0 ≤ wo) && decide (wo < l.length) && decide (0 ≤ l.getD wo.toNat 0))
/-- Number x may not come next. -/
def skP (wo : Int) (l : List Int) (x : Int) : Bool := decide (0 ≤ x) && (decide (0 ≤ pos l x) || decide ((l.length : Int) = wo))

theorem getD_app {l m : List Int} {i : Nat} (h : i < l.length) : (l ++ m).getD i 0 = l.getD i 0 := by
  rw [List.getD_eq_getElem?_getD, List.getD_eq_getElem?_getD, List.getElem?_append_left h]

theorem awAt_app {l m : List Int} {i : Nat} (h : i < l.length) : awAt (l ++ m) i = awAt l i := by
  unfold awAt
  rw [getD_app h, List.take_append_of_le_length (by omega)]

theorem awAt_last {l : List Int} {x : Int} {m : List Int} : awAt (l ++ x :: m) l.length = !(decide (0 ≤ x) && decide (0 ≤ pos l x)) := by
  unfold awAt
  rw [List.take_append_of_le_length (Nat.le_refl _), List.take_length]
  simp [List.getD_eq_getElem?_getD]

theorem isAwd_app {l : List Int} {x : Int} : isAwd (l ++ [x]) = (isAwd l && !(decide (0 ≤ x) && decide (0 ≤ pos l x))) := by
  unfold isAwd allR
  rw [List.length_append, List.length_singleton, List.range_succ, List.all_append]
  congr 1
  · rw [Bool.eq_iff_iff, List.all_eq_true, List.all_eq_true]
    exact ⟨fun h i hi => by rw [← awAt_app (m := [x]) (by simpa using hi)]; exact h i hi, fun h i hi => by rw [awAt_app (by simpa using hi)]; exact h i hi⟩
  · simp [awAt_last]

theorem okP_nil {wo : Int} : okP wo [] = true := by
  simp only [okP, Bool.and_eq_true, Bool.not_eq_true']
  refine ⟨rfl, ?_⟩
  simp only [List.length_nil, Bool.and_eq_false_iff, decide_eq_false_iff_not]
  omega

theorem okP_keep {wo : Int} {l : List Int} {x : Int} (h : okP wo l = true) (hs : skP wo l x = false) : okP wo (l ++ [x]) = true := by
  simp only [okP, skP, isAwd_app, Bool.and_eq_true, Bool.not_eq_true', Bool.and_eq_false_iff, Bool.or_eq_false_iff, decide_eq_false_iff_not, List.length_append, List.length_singleton] at h hs ⊢
  obtain ⟨h1, h2⟩ := h
  refine ⟨⟨h1, ?_⟩, ?_⟩
  · rcases hs with hs | ⟨hs, _⟩
    · exact .inl hs
    · exact .inr hs
  · by_cases h0 : 0 ≤ wo
    · by_cases hw : wo < l.length
      · rw [getD_app (by omega)]
        rcases h2 with (h2 | h2) | h2
        · exact (h2 h0).elim
        · exact (h2 hw).elim
        · exact .inr h2
      · by_cases he : wo = l.length
        · right
          subst he
          rcases hs with hs | ⟨_, hs⟩
          · simp [List.getD_eq_getElem?_getD]; omega
          · exact (hs rfl).elim
        · left; right; push_cast; omega
    · exact .inl (.inl h0)

theorem okP_skip {wo : Int} {l : List Int} {x : Int} {m : List Int} (hs : skP wo l x = true) : okP wo (l ++ x :: m) = false := by
  simp only [skP, Bool.and_eq_true, Bool.or_eq_true, decide_eq_true_eq] at hs
  obtain ⟨hx, hs⟩ := hs
  simp only [okP, Bool.and_eq_false_iff, Bool.not_eq_false', Bool.and_eq_true, decide_eq_true_eq]
  rcases hs with hs | hs
  · left
    exact allR_no (k := l.length) (by simp) (by rw [awAt_last]; simp [hx, hs])
  · right
    subst hs
    refine ⟨⟨by omega, by simp; omega⟩, ?_⟩
    simp [List.getD_eq_getElem?_getD, hx]

theorem bestS_award {W : List Int → Int} {wo high : Int} {n : Nat} (hh : -1 ≤ high + 1) : bestS W (skP wo) (-1) (high + 1 - -1).toNat n [] = bestO W (okP wo) (allL (-1) high n) := by
  have := bestS_eq (W := W) (ok := okP wo) (sk := skP wo) (low := -1) (high := high) (n := n) hh (fun l x m _ _ hs => okP_skip hs) (fun l x h _ hs => okP_keep h hs) n [] okP_nil (by simp)
  rw [this]; simp

end Go.Proofs.YtblnpjppckfmfaaDoor.Ax

/-
  Contracts: the worth of an award, what a person's pieces are worth (both programs). No condition.
-/
namespace Go.Proofs.YtblnpjppckfmfaaDoor.Ax
open Go Go.RowKit
set_option linter.unusedSimpArgs false

theorem ent_get {xss : List (Bool × List Int)} {i : Nat} (hi : i < xss.length) {k : Int} (hk : k.toNat < xss[i].2.length) : xss[i].2[k.toNat]? = some (ent xss i k) := by
  unfold ent; simp [List.getD_eq_getElem?_getD, hi, hk]

/-- The worth of the first k things of an award. -/
def awTo (xss : List (Bool × List Int)) (aw : List Int) : Nat → Int
  | 0 => 0
  | k + 1 => if 0 ≤ aw.getD k 0 then IntKind.i64.wrap (awTo xss aw k + ent xss k (aw.getD k 0)) else awTo xss aw k

noncomputable def mAwW : List AV → Option AV := mk (fun p => p.2.2.2.length ≤ p.2.1.length ∧ ∀ i, i < p.2.2.2.length → p.2.2.2.getD i 0 < ((p.2.1.getD i (true, [])).2.length : Int)) (fun (p : (Bool) × (List (Bool × List Int)) × (Bool) × (List Int)) => [intss p.1 p.2.1, ints p.2.2.1 p.2.2.2]) (fun p => int (awTo p.2.1 p.2.2.2 p.2.2.2.length))
theorem mAwW_at (nl : Bool) (xss : List (Bool × List Int)) (nl' : Bool) (aw : List Int) (hpre : aw.length ≤ xss.length ∧ ∀ i, i < aw.length → aw.getD i 0 < ((xss.getD i (true, [])).2.length : Int)) : mAwW [.sl nl 1 (xss.map row), .sl nl' 1 (aw.map int)] = some (.v (.int .i64 (awTo xss aw aw.length))) :=
  mk_eq (enc := fun (p : (Bool) × (List (Bool × List Int)) × (Bool) × (List Int)) => [intss p.1 p.2.1, ints p.2.2.1 p.2.2.2]) (x := (nl, xss, nl', aw)) (by rintro ⟨a0, a1, a2, a3⟩ ⟨b0, b1, b2, b3⟩ h; simp [ints, intss, int, bool, row, frac, fracs, map_int_inj, map_row_inj, frac_inj, map_frac_inj] at h; simp [h]) hpre

theorem awW_pre {xss : List (Bool × List Int)} {aw : List Int} (h : awardB xss aw = true) : aw.length ≤ xss.length ∧ ∀ i, i < aw.length → aw.getD i 0 < ((xss.getD i (true, [])).2.length : Int) := by
  simp only [awardB, Bool.and_eq_true, decide_eq_true_eq] at h
  obtain ⟨⟨⟨h1, h2⟩, h3⟩, _⟩ := h
  refine ⟨by omega, fun i hi => ?_⟩
  have := (allIn_at h3 hi).2
  have hr := (rect_row h1 (i := i) (by omega)).1
  rw [getD_at hi, List.getD_eq_getElem?_getD, List.getElem?_eq_getElem (by omega)]
  simp only [Option.getD_some]; omega

noncomputable def mAwWorth : List AV → Option AV := mk (fun _ => True) (fun (p : (Bool) × (List (Bool × List Int)) × (Bool) × (List Int)) => [intss p.1 p.2.1, ints p.2.2.1 p.2.2.2]) (fun p => int (if awardB p.2.1 p.2.2.2 = true then awTo p.2.1 p.2.2.2 p.2.2.2.length else -1))
theorem mAwWorth_at (nl : Bool) (xss : List (Bool × List Int)) (nl' : Bool) (aw : List Int) : mAwWorth [.sl nl 1 (xss.map row), .sl nl' 1 (aw.map int)] = some (.v (.int .i64 (if awardB xss aw = true then awTo xss aw aw.length else -1))) :=
  mk_eq (enc := fun (p : (Bool) × (List (Bool × List Int)) × (Bool) × (List Int)) => [intss p.1 p.2.1, ints p.2.2.1 p.2.2.2]) (x := (nl, xss, nl', aw)) (by rintro ⟨a0, a1, a2, a3⟩ ⟨b0, b1, b2, b3⟩ h; simp [ints, intss, int, bool, row, frac, fracs, map_int_inj, map_row_inj, frac_inj, map_frac_inj] at h; simp [h]) trivial

end Go.Proofs.YtblnpjppckfmfaaDoor.Ax

/-
  Contracts: slices.Clone, the lists, the best award of the program. No condition.
-/
namespace Go.Proofs.YtblnpjppckfmfaaDoor.Ax
open Go Go.RowKit
set_option linter.unusedSimpArgs false

noncomputable def mClone : List AV → Option AV := mk (fun p => p.2.length ≤ 1000000) (fun (p : (Bool) × (List Int)) => [ints p.1 p.2]) (fun p => ints p.1 p.2)
theorem mClone_at (nl : Bool) (xs : List Int) (hpre : xs.length ≤ 1000000) : mClone [.sl nl 1 (xs.map int)] = some (.sl nl 1 ((xs).map int)) :=
  mk_eq (enc := fun (p : (Bool) × (List Int)) => [ints p.1 p.2]) (x := (nl, xs)) (by rintro ⟨a0, a1⟩ ⟨b0, b1⟩ h; simp [ints, intss, int, bool, row, frac, fracs, map_int_inj, map_row_inj, frac_inj, map_frac_inj] at h; simp [h]) hpre

end Go.Proofs.YtblnpjppckfmfaaDoor.Ax

/-
  Contracts: slices.Grow of nil, slices.Concat of ints. No condition.
-/
namespace Go.Proofs.YtblnpjppckfmfaaDoor.Ax
open Go Go.RowKit
set_option linter.unusedSimpArgs false

noncomputable def mGrow : List AV → Option AV := mk (fun p => p ≤ 1000000) (fun (p : Nat) => [.sl true 1 [], int (p : Int)]) (fun p => .sl (decide (p = 0)) 1 [])
theorem mGrow_at (n : Nat) (h : n ≤ 1000000) : mGrow [.sl true 1 [], .v (.int .i64 (n : Int))] = some (.sl (decide (n = 0)) 1 []) :=
  mk_eq (enc := fun (p : Nat) => [.sl true 1 [], int (p : Int)]) (x := n) (by intro a b h; simp [int] at h; exact (by omega : a = b) ▸ rfl) h

theorem growI_ok : FnOk Tryd.prog 120 mGrow := by
  refine mk_ok fun n hn => ?_
  have hG : FnsOk Tryd.prog [] := .nil
  refine callOk_awp (ctx_ok eqOk hG) mixed (live := [true, true, false, false, true, false, true, false, false, false, false, false, false, false, false, false, true]) (dt := []) Tryd.func120 rfl (by kernel_rfl) (by kernel_rfl) fun w0 hlens => ?_
  clear hlens
  have h1 : ¬ ((n : Int) < 0) := by omega
  have h2 : IntKind.i64.wrap (n : Int) = (n : Int) := wrapI (by omega) (by omega)
  have hz : IntKind.i64.wrap 0 = 0 := by decide
  by_cases h0 : n = 0
  · subst h0
    simp (config := {contextual := true}) [Tryd.f120, List.range, List.range.loop, ints, intss, int, bool, row, frac, fracs, ← List.map_take, ← List.map_drop, h1, h2, hz]
  · have h3 : 0 < n := by omega
    have h4 : n ≤ 4611686018427387904 ∧ n * 8 ≤ 140737488355328 := by omega
    have h0' : ¬ (0 = n) := by omega
    simp (config := {contextual := true}) [Tryd.f120, List.range, List.range.loop, ints, intss, int, bool, row, frac, fracs, ← List.map_take, ← List.map_drop, h0, h0', h1, h2, hz, h3, h4]

/-- The rows, one behind the other. -/
def cat (xss : List (Bool × List Int)) : List Int := xss.flatMap (·.2)
def catTo (xss : List (Bool × List Int)) (k : Nat) : List Int := (xss.take k).flatMap (·.2)
theorem catTo_succ {xss : List (Bool × List Int)} {k : Nat} (h : k < xss.length) : catTo xss (k + 1) = catTo xss k ++ xss[k].2 := by
  unfold catTo
  rw [List.take_succ_eq_append_getElem h, List.flatMap_append]; simp
theorem catTo_all {xss : List (Bool × List Int)} : catTo xss xss.length = cat xss := by simp [catTo, cat]
theorem catTo_le {xss : List (Bool × List Int)} : ∀ {k : Nat}, (catTo xss k).length ≤ (cat xss).length := by
  intro k
  unfold catTo cat
  conv => rhs; rw [← List.take_append_drop k xss, List.flatMap_append]
  simp

noncomputable def mConcat : List AV → Option AV := mk (fun p => p.2.length ≤ 1000 ∧ (cat p.2).length ≤ 1000000) (fun (p : Bool × List (Bool × List Int)) => [intss p.1 p.2]) (fun p => .sl (decide (cat p.2 = [])) 1 ((cat p.2).map int))
theorem mConcat_at (nl : Bool) (xss : List (Bool × List Int)) (h : xss.length ≤ 1000 ∧ (cat xss).length ≤ 1000000) : mConcat [.sl nl 1 (xss.map row)] = some (.sl (decide (cat xss = [])) 1 ((cat xss).map int)) :=
  mk_eq (enc := fun (p : Bool × List (Bool × List Int)) => [intss p.1 p.2]) (x := (nl, xss)) (by rintro ⟨a, b⟩ ⟨c, d⟩ h; simp [intss, map_row_inj] at h; simp [h]) h

set_option maxHeartbeats 1000000 in
theorem concatI_ok : FnOk Tryd.prog 108 mConcat := by
  refine mk_ok fun ⟨nl, xss⟩ ⟨hl, ht⟩ => ?_
  simp only at hl ht
  have hG : FnsOk Tryd.prog [(120, mGrow)] := (.cons growI_ok .nil)
  refine callOk_awp (ctx_ok eqOk hG) mixed (live := [true, false, true, true, false, true, true, false, true, true, true, true, true, false, false, false, false, false, false, false, true, false, false, false, false, true, true, true, true]) (dt := []) Tryd.func108 rfl (by kernel_rfl) (by kernel_rfl) fun w0 hlens => ?_
  clear hlens
  simp (config := {contextual := true}) [Tryd.f108, List.range, List.range.loop, ints, intss, int, bool, row, frac, fracs, ← List.map_take, ← List.map_drop]
  refine awp_range (live := [true, false, true, true, false, true, true, false, true, true, true, true, true, false, false, false, false, false, false, false, true, false, false, false, false, true, true, true, true]) (ctx_ok eqOk hG) mixed [true, false, false, true, false, false, false, false, false, true, true, true] (xss.length) (fun k => True) (fun k => ⟨[intss nl xss, .junk, .junk, int ((catTo xss k).length : Int), .junk, .junk, .junk, .junk, .junk, intss nl xss, int xss.length, int k, .junk, .junk, .junk, .junk, .junk, .junk, .junk, .junk, .junk, .junk, .junk, .junk, .junk, .junk, .junk, .junk, .junk, .junk, .junk, .junk, .junk, .junk, .junk, .junk], []⟩) ?_ (by simp [sub, slotsLe, clean, keep, refsL, refs, once, place, renL, ren, List.replicate, int, bool, intss, catTo]) ?_ ?_ ?_
  · omega
  · trivial
  · intro k hk _ hwk
    have hs := catTo_succ hk
    have hle := catTo_le (xss := xss) (k := k + 1)
    rw [hs, List.length_append] at hle
    have hw2 : IntKind.i64.wrap (((catTo xss k).length : Int) + (xss[k].2.length : Int)) = ((catTo xss k).length : Int) + (xss[k].2.length : Int) := wrapI (by omega) (by omega)
    have hno : ¬ (((catTo xss k).length : Int) + (xss[k].2.length : Int) < 0) := by omega
    simp (config := {contextual := true}) [List.range, List.range.loop, ints, intss, int, bool, row, frac, fracs, ← List.map_take, ← List.map_drop, hk, hwk, hs, hw2, hno]
  · intro _
    rw [catTo_all]
    have hg := mGrow_at _ ht
    have hd : decide ((cat xss).length = 0) = decide (cat xss = []) := decide_eq_decide.2 List.length_eq_zero_iff
    rw [hd] at hg
    simp (config := {contextual := true}) [List.range, List.range.loop, ints, intss, int, bool, row, frac, fracs, ← List.map_take, ← List.map_drop, hg]
    generalize hD : decide (cat xss = []) = D at hg
    have hDk : ∀ k (hk : k < xss.length), D = true → xss[k].2 = [] := fun k hk hd => by
      subst hD
      have h0 : cat xss = [] := by simpa using hd
      have : xss[k].2 ∈ xss.map (·.2) := List.mem_map.2 ⟨_, List.getElem_mem hk, rfl⟩
      simp only [cat, List.flatMap_eq_nil_iff] at h0
      exact h0 _ (List.getElem_mem hk)
    refine awp_range (live := [true, false, true, true, false, true, true, false, true, true, true, true, true, false, false, false, false, false, false, false, true, false, false, false, false, true, true, true, true]) (ctx_ok eqOk hG) mixed [false, false, false, false, false, false, true, false, false, false, false, false, false, false, false, false, false, false, false, false, false, false, false, false, false, true, true, true] (xss.length) (fun k => True) (fun k => ⟨[.junk, .junk, .junk, .junk, .junk, .junk, .ref 0 [] 0 (catTo xss k).length, .junk, .junk, .junk, .junk, .junk, .junk, .junk, .junk, .junk, .junk, .junk, .junk, .junk, .junk, .junk, .junk, .junk, .junk, intss nl xss, int xss.length, int k, .junk, .junk, .junk, .junk, .junk, .junk, .junk, .junk], [⟨true, .sl D 1 ((catTo xss k).map int)⟩]⟩) ?_ (by simp [sub, slotsLe, clean, keep, refsL, refs, once, place, renL, ren, List.replicate, int, bool, intss, catTo]) ?_ ?_ ?_
    · omega
    · trivial
    · intro k hk _ hwk
      have hs := catTo_succ hk
      have hle := catTo_le (xss := xss) (k := k + 1)
      rw [hs, List.length_append] at hle
      have hb : (catTo xss k).length + xss[k].2.length ≤ 4611686018427387904 ∧ ((catTo xss k).length + xss[k].2.length) * 8 ≤ 140737488355328 := by omega
      cases hDD : D with
      | true =>
        have hx0 := hDk k hk hDD
        have hb2 : (catTo xss k).length ≤ 4611686018427387904 ∧ (catTo xss k).length * 8 ≤ 140737488355328 := by omega
        simp (config := {contextual := true}) [List.range, List.range.loop, ints, intss, int, bool, row, frac, fracs, ← List.map_take, ← List.map_drop, hk, hwk, hs, hb2, hx0]
      | false =>
        simp (config := {contextual := true}) [List.range, List.range.loop, ints, intss, int, bool, row, frac, fracs, ← List.map_take, ← List.map_drop, hk, hwk, hs, hb]
    · intro _
      simp (config := {contextual := true}) [List.range, List.range.loop, ints, intss, int, bool, row, frac, fracs, ← List.map_take, ← List.map_drop, catTo_all]

end Go.Proofs.YtblnpjppckfmfaaDoor.Ax

/-
  Contract: indices (the program). No condition.
-/
namespace Go.Proofs.YtblnpjppckfmfaaDoor.Ax
open Go Go.RowKit
set_option linter.unusedSimpArgs false

/-- 0, 1, .. -/
def idx (n : Nat) : List Int := (List.range n).map fun (i : Nat) => (i : Int)
def idxTo (n k : Nat) : List Int := idx k ++ List.replicate (n - k) 0
theorem idx_len {n : Nat} : (idx n).length = n := by simp [idx]
theorem idxTo_len {n k : Nat} (h : k ≤ n) : (idxTo n k).length = n := by simp [idxTo, idx_len]; omega
theorem idxTo_set {n k : Nat} (h : k < n) : (idxTo n k).set k (k : Int) = idxTo n (k + 1) := by
  unfold idxTo
  rw [List.set_append_right _ _ (by simp [idx_len]), idx_len, Nat.sub_self, show n - k = (n - (k + 1)) + 1 by omega, List.replicate_succ, List.set_cons_zero]
  simp [idx, List.range_succ]
theorem idxTo_all {n : Nat} : idxTo n n = idx n := by simp [idxTo]

noncomputable def mIdx : List AV → Option AV := mk (fun p => p ≤ 1000) (fun (p : Nat) => [int (p : Int)]) (fun p => ints false (idx p))
theorem mIdx_at (n : Nat) (h : n ≤ 1000) : mIdx [.v (.int .i64 (n : Int))] = some (.sl false 1 ((idx n).map int)) :=
  mk_eq (enc := fun (p : Nat) => [int (p : Int)]) (x := n) (by intro a b h; simp [int] at h; exact (by omega : a = b) ▸ rfl) h

set_option maxHeartbeats 1000000 in
theorem indices_ok : FnOk Tryd.prog 92 mIdx := by
  refine mk_ok fun n hn => ?_
  have hG : FnsOk Tryd.prog [] := .nil
  refine callOk_awp (ctx_ok eqOk hG) mixed (live := [true, false, true, true, true, false, false, false, true, true, true]) (dt := []) Tryd.func92 rfl (by kernel_rfl) (by kernel_rfl) fun w0 hlens => ?_
  clear hlens
  have h1 : 8 * n ≤ 281474976710656 := by omega
  have h2 : n ≤ 4611686018427387904 := by omega
  simp (config := {contextual := true}) [Tryd.f92, List.range, List.range.loop, ints, intss, int, bool, row, frac, fracs, ← List.map_take, ← List.map_drop, h1, h2]
  refine awp_range (live := [true, false, true, true, true, false, false, false, true, true, true]) (ctx_ok eqOk hG) mixed [false, false, false, true, false, false, false, false, true, true] (n) (fun k => True) (fun k => ⟨[.junk, .junk, .junk, .ref 0 [] 0 n, .junk, .junk, .junk, .junk, int n, int k, .junk, .junk, .junk, .junk, .junk, .junk, .junk, .junk], [⟨true, .sl false 1 ((idxTo n k).map int)⟩]⟩) ?_ (by simp [sub, slotsLe, clean, keep, refsL, refs, once, place, renL, ren, List.replicate, int, bool, idxTo, idx]) ?_ ?_ ?_
  · omega
  · trivial
  · intro k hk _ hwk
    have hl := idxTo_len (n := n) (k := k) (by omega)
    have hs := idxTo_set hk
    have hl2 := idxTo_len (n := n) (k := k + 1) (by omega)
    have hs' : ((idxTo n k).map int).set k (.v (.int .i64 (k : Int))) = (idxTo n (k + 1)).map int := by rw [← hs, List.map_set]; rfl
    simp (config := {contextual := true}) [List.range, List.range.loop, ints, intss, int, bool, row, frac, fracs, ← List.map_take, ← List.map_drop, hk, hwk, hl, hl2, hs', -List.map_set]
    done
  · intro _
    have hl := idxTo_len (n := n) (k := n) (by omega)
    rw [idxTo_all] at hl
    simp (config := {contextual := true}) [List.range, List.range.loop, ints, intss, int, bool, row, frac, fracs, ← List.map_take, ← List.map_drop, hl, idxTo_all]
    done

end Go.Proofs.YtblnpjppckfmfaaDoor.Ax
