/-
  The plain side of stable matchings: pairs that block, in two orders. Plain Lean, no program in sight.
-/
import Derived.Test.YtiieikknhheffaaGreatDoorCG4
import Derived.Test.YtiieikknhheffaaGreatDoorCG1
import Derived.Shelf.Bits.Mul64
import Derived.Test.YtiieikknhheffaaGreatDoorCB2
import Derived.Test.YtiieikknhheffaaGreatDoorCK4
import Derived.Test.YtiieikknhheffaaGreatDoorCG2
namespace Go.Proofs.YtiieikknhheffaaGreatDoor.Ax
open Go Go.RowKit
set_option linter.unusedSimpArgs false
set_option linter.unusedVariables false

/-- Man i and woman w would rather have each other. -/
def bkB (xs ys : List (Bool × List Int)) (l : List Int) (i w : Int) : Bool := pfB (rw2 xs i) w (at1 l i) && pfB (rw2 ys w) i (pos l w)
def bkR (xs ys : List (Bool × List Int)) (l : List Int) (i : Nat) (c : List Int) : List (Bool × List Int) := (c.filter fun w => bkB xs ys l (i : Int) w).map fun w => (false, [(i : Int), w])
/-- The pairs that block: a man's women in the order of their numbers, or of his list. -/
def blI (xs ys : List (Bool × List Int)) (l : List Int) (k : Nat) : List (Bool × List Int) := (List.range k).flatMap fun i => bkR xs ys l i ((List.range l.length).map fun (w : Nat) => (w : Int))
def blS (xs ys : List (Bool × List Int)) (l : List Int) (k : Nat) : List (Bool × List Int) := (List.range k).flatMap fun i => bkR xs ys l i (rw2 xs i)
theorem blI_succ {xs ys : List (Bool × List Int)} {l : List Int} {k : Nat} : blI xs ys l (k + 1) = blI xs ys l k ++ bkR xs ys l k ((List.range l.length).map fun (w : Nat) => (w : Int)) := by
  unfold blI; rw [List.range_succ, List.flatMap_append]; simp
theorem blS_succ {xs ys : List (Bool × List Int)} {l : List Int} {k : Nat} : blS xs ys l (k + 1) = blS xs ys l k ++ bkR xs ys l k (rw2 xs k) := by
  unfold blS; rw [List.range_succ, List.flatMap_append]; simp
theorem bkR_snoc {xs ys : List (Bool × List Int)} {l : List Int} {i : Nat} {c : List Int} {w : Int} : bkR xs ys l i (c ++ [w]) = bkR xs ys l i c ++ (if bkB xs ys l (i : Int) w = true then [(false, [(i : Int), w])] else []) := by
  unfold bkR; rw [List.filter_append, List.map_append]
  congr 1
  cases h : bkB xs ys l (i : Int) w <;> simp [h]
theorem bkR_len {xs ys : List (Bool × List Int)} {l : List Int} {i : Nat} {c : List Int} : (bkR xs ys l i c).length ≤ c.length := by
  unfold bkR; rw [List.length_map]; exact List.length_filter_le _ _
theorem pfB_self {l : List Int} {a : Int} : pfB l a a = false := by simp [pfB]
theorem bkB_own {xs ys : List (Bool × List Int)} {l : List Int} {i : Int} : bkB xs ys l i (at1 l i) = false := by simp [bkB, pfB_self]
/-- No pair blocks. -/
def noBl (xs ys : List (Bool × List Int)) (l : List Int) : Bool := (blI xs ys l xs.length).isEmpty
theorem blS_none {xs ys : List (Bool × List Int)} {l : List Int} (h : H5 xs) (hl : l.length = xs.length) : (blS xs ys l xs.length).isEmpty = noBl xs ys l := by
  have e : ∀ i, i < xs.length → ((bkR xs ys l i (rw2 xs i) = []) ↔ (bkR xs ys l i ((List.range l.length).map fun (w : Nat) => (w : Int)) = [])) := fun i hi => by
    have er : rw2 xs i = xs[i].2 := by unfold rw2; rw [Int.toNat_natCast]; simp [List.getD_eq_getElem?_getD, hi]
    obtain ⟨h1, h2⟩ := h.all i hi
    unfold bkR
    rw [List.map_eq_nil_iff, List.map_eq_nil_iff, List.filter_eq_nil_iff, List.filter_eq_nil_iff]
    constructor
    · intro hn w hw
      obtain ⟨k, hk, rfl⟩ := List.mem_map.1 hw
      exact hn _ (by rw [er]; exact h2 k (by rw [List.mem_range] at hk; omega))
    · intro hn w hw
      rw [er] at hw
      have := h1 w hw
      exact hn w (List.mem_map.2 ⟨w.toNat, List.mem_range.2 (by omega), by omega⟩)
  have key : blS xs ys l xs.length = [] ↔ blI xs ys l xs.length = [] := by
    unfold blS blI
    rw [List.flatMap_eq_nil_iff, List.flatMap_eq_nil_iff]
    exact ⟨fun hn i hi => (e i (List.mem_range.1 hi)).1 (hn i hi), fun hn i hi => (e i (List.mem_range.1 hi)).2 (hn i hi)⟩
  unfold noBl
  rw [Bool.eq_iff_iff, List.isEmpty_iff, List.isEmpty_iff]
  exact key

/-- The house of each woman's man: a matching turned. -/
def tnT (l : List Int) : Nat → List Int
  | 0 => List.replicate l.length 0
  | k + 1 => (tnT l k).set (l.getD k 0).toNat (k : Int)
theorem tnT_len {l : List Int} : ∀ {k : Nat}, (tnT l k).length = l.length
  | 0 => by simp [tnT]
  | k + 1 => by simp [tnT, tnT_len]
theorem tnT_bd {l : List Int} : ∀ {k : Nat}, k ≤ l.length → ∀ x ∈ tnT l k, 0 ≤ x ∧ x ≤ l.length
  | 0, _, x, hx => by simp only [tnT, List.mem_replicate] at hx; omega
  | k + 1, hk, x, hx => by
    rw [tnT] at hx
    rcases List.mem_or_eq_of_mem_set hx with h | h
    · exact tnT_bd (by omega) x h
    · omega
/-- Proper lists are rankings. -/
theorem rank_of {l : List Int} (h1 : 1 ≤ l.length) (h5 : l.length ≤ 5) (hb : ∀ x ∈ l, 0 ≤ x ∧ x < l.length) (hn : l.Nodup) : rankB l.length l = true := by
  simp only [rankB, Bool.and_eq_true, decide_eq_true_eq, inR]
  refine ⟨⟨⟨by omega, by omega⟩, trivial⟩, ?_⟩
  unfold allR
  rw [List.all_eq_true]
  intro i hi
  have hi' : i < l.length := by simpa using hi
  rw [rankAt_at hi']
  have hx := hb l[i] (List.getElem_mem hi')
  have hno : ¬ 0 ≤ pos (l.take i) l[i] := by
    rw [pos_iff]
    intro hm
    obtain ⟨j, hj, e⟩ := List.getElem_of_mem hm
    rw [List.nodup_iff_pairwise_ne, List.pairwise_iff_getElem] at hn
    have hji : j < i := by simp at hj; omega
    rw [List.getElem_take] at e
    exact hn j i (by omega) hi' hji e
  simp only [Bool.and_eq_true, inR, decide_eq_true_eq, Bool.not_eq_true', decide_eq_false_iff_not]
  exact ⟨⟨hx.1, by omega⟩, hno⟩

end Go.Proofs.YtiieikknhheffaaGreatDoor.Ax

/-
  Contracts: math/bits.Mul, slices.Repeat of ints. No condition.
-/
namespace Go.Proofs.YtiieikknhheffaaGreatDoor.Ax
open Go Go.RowKit
set_option linter.unusedSimpArgs false

/-- The numbers of the library's function and types in this program. -/
def renMul : Go.Shelf.Ren := ⟨fun _ => 198, fun x => if x = 46 then 128 else 163, fun x => x⟩
theorem lay_mul : Go.Proofs.Lays.n264 Tryz.prog renMul := {
  mixed := by kernel_rfl
  f264 := Tryz.func198.trans (congrArg some (by kernel_rfl))
  t46 := by kernel_rfl
  a46 := fun _ => run_isAgg (tyOf_ok ty128)
  z46 := fun _ => run_size (tyOf_ok ty128)
  v46 := fun _ => run_zero (tyOf_ok ty128)
  t53 := by kernel_rfl
  a53 := fun _ => run_isAgg (tyOf_ok ty163)
  z53 := fun _ => run_size (tyOf_ok ty163)
  v53 := fun _ => run_zero (tyOf_ok ty163) }

noncomputable def mMul64 : List AV → Option AV := mk (fun p => p.1 < 18446744073709551616 ∧ p.2 < 18446744073709551616) (fun (p : Nat × Nat) => [.v (.int .u64 (p.1 : Int)), .v (.int .u64 (p.2 : Int))])
  (fun p => .tup [.v (.int .u64 ((p.1 * p.2 / 18446744073709551616 : Nat) : Int)), .v (.int .u64 ((p.1 * p.2 % 18446744073709551616 : Nat) : Int))])
theorem mMul64_at (x y : Nat) (h : x < 18446744073709551616 ∧ y < 18446744073709551616) : mMul64 [.v (.int .u64 (x : Int)), .v (.int .u64 (y : Int))] = some (.tup [.v (.int .u64 ((x * y / 18446744073709551616 : Nat) : Int)), .v (.int .u64 ((x * y % 18446744073709551616 : Nat) : Int))]) :=
  mk_eq (enc := fun (p : Nat × Nat) => [.v (.int .u64 (p.1 : Int)), .v (.int .u64 (p.2 : Int))]) (x := (x, y)) (by rintro ⟨a, b⟩ ⟨c, d⟩ h; simp at h; simp [h]) h

theorem mul64_ok : FnOk Tryz.prog 198 mMul64 := by
  refine mk_ok fun ⟨x, y⟩ ⟨hx, hy⟩ => ?_
  refine ⟨⟨_, Tryz.func198, by kernel_rfl, by kernel_rfl⟩, fun w F vals hF hv => ?_⟩
  simp only [RepL, Rep] at hv
  obtain ⟨a, r1, e1, ⟨rfl, _⟩, b, r2, rfl, ⟨rfl, _⟩, rfl⟩ := hv
  have hvals : vals = #[.int .u64 (x : Int), .int .u64 (y : Int)] := by apply Array.ext'; rw [e1]
  subst hvals
  refine (Go.Proofs.Any.bits_Mul64 lay_mul x y hx hy w).mono fun e w' h => ?_
  obtain ⟨rfl, rfl⟩ := h
  refine ⟨_, fun _ => False, rfl, Frm.refl _ _, fun _ h => h.elim, ?_⟩
  simp only [Own, OwnL]
  exact ⟨_, rfl, _, _, fun _ => False, fun _ => False, rfl, fun _ h => h.elim, fun _ h => h.elim, fun _ h => h.elim, ⟨rfl, rfl⟩, _, _, fun _ => False, fun _ => False, rfl, fun _ h => h.elim, fun _ h => h.elim, fun _ h => h.elim, ⟨rfl, rfl⟩, rfl⟩

noncomputable def mMul : List AV → Option AV := mMul64
theorem mMul_at (x y : Nat) (h : x < 18446744073709551616 ∧ y < 18446744073709551616) : mMul [.v (.int .u64 (x : Int)), .v (.int .u64 (y : Int))] = some (.tup [.v (.int .u64 ((x * y / 18446744073709551616 : Nat) : Int)), .v (.int .u64 ((x * y % 18446744073709551616 : Nat) : Int))]) := mMul64_at x y h

theorem mul_ok : FnOk Tryz.prog 174 mMul := by
  unfold mMul mMul64
  refine mk_ok fun ⟨x, y⟩ h => ?_
  simp only at h
  have hG : FnsOk Tryz.prog [(198, mMul64)] := (.cons mul64_ok .nil)
  refine callOk_awp (ctx_ok eqOk hG) mixed (live := [true, true, false, false, true, true, true, true, true, true]) (dt := []) Tryz.func174 rfl (by kernel_rfl) (by kernel_rfl) fun w0 hlens => ?_
  clear hlens
  simp (config := {contextual := true}) [Tryz.f174, List.range, List.range.loop, ints, intss, int, bool, row, frac, fracs, ← List.map_take, ← List.map_drop, mMul64_at, h]

/-- x so far, zeros behind. -/
def repTo (x : Int) (n m : Nat) : List AV := List.replicate m (int x) ++ List.replicate (n - m) (int 0)
theorem repTo_len {x : Int} {n m : Nat} (h : m ≤ n) : (repTo x n m).length = n := by simp [repTo]; omega
theorem repTo_scal {x : Int} {n m : Nat} : allS (repTo x n m) = true := by
  rw [allS, List.all_eq_true]
  intro e he
  simp only [repTo, List.mem_append, List.mem_replicate] at he
  rcases he with ⟨_, rfl⟩ | ⟨_, rfl⟩ <;> rfl
theorem repTo_step {x : Int} {n m k : Nat} (_h : m + k ≤ n) (hk : k ≤ m) : (repTo x n m).take m ++ (viewEs (repTo x n m) 0 m).take k ++ (repTo x n m).drop (m + k) = repTo x n (m + k) := by
  have e1 : (repTo x n m).take m = List.replicate m (int x) := by simp [repTo]
  have e2 : viewEs (repTo x n m) 0 m = List.replicate m (int x) := by simp [viewEs, e1]
  have e3 : (repTo x n m).drop (m + k) = List.replicate (n - (m + k)) (int 0) := by
    simp [repTo, List.drop_append]; omega
  rw [e1, e2, e3, List.take_replicate, Nat.min_eq_left hk]
  simp [repTo, List.replicate_append_replicate]

theorem rep1 {a : AV} {n : Nat} : List.replicate (min 1 n) a = List.take (min 1 n) [a] := by
  rcases Nat.eq_zero_or_pos n with rfl | h
  · simp
  · rw [Nat.min_eq_left h]; simp

noncomputable def mRepeatI : List AV → Option AV := mk (fun p => p.2.2 ≤ 1000) (fun (p : Bool × Int × Nat) => [ints p.1 [p.2.1], int (p.2.2 : Int)]) (fun p => ints false (List.replicate p.2.2 p.2.1))
theorem mRepeatI_at (nl : Bool) (x : Int) (n : Nat) (h : n ≤ 1000) : mRepeatI [.sl nl 1 [.v (.int .i64 x)], .v (.int .i64 (n : Int))] = some (.sl false 1 ((List.replicate n x).map int)) :=
  mk_eq (enc := fun (p : Bool × Int × Nat) => [ints p.1 [p.2.1], int (p.2.2 : Int)]) (x := (nl, x, n)) (by rintro ⟨a, b, c⟩ ⟨d, e, f⟩ h; simp [ints, int] at h; obtain ⟨⟨rfl, rfl⟩, h⟩ := h; exact (by omega : c = f) ▸ rfl) h

end Go.Proofs.YtiieikknhheffaaGreatDoor.Ax

/-
  All lists of a length over a range of numbers, in lexicographic order; the list behind one of them. No condition.
-/
namespace Go.Proofs.YtiieikknhheffaaGreatDoor.Ax
open Go Go.RowKit

/-- low, low + 1, .. : m numbers; behind each of them the lists of L. -/
def blocks (L : List (List Int)) (x : Int) : Nat → List (List Int)
  | 0 => []
  | m + 1 => L.map (x :: ·) ++ blocks L (x + 1) m

/-- All lists of length n over low .. high. -/
def allL (low high : Int) : Nat → List (List Int)
  | 0 => [[]]
  | n + 1 => blocks (allL low high n) low (high + 1 - low).toNat

/-- The next list. -/
def next (low high : Int) : List Int → Option (List Int)
  | [] => none
  | x :: l => match next low high l with
    | some l' => some (x :: l')
    | none => if x < high then some ((x + 1) :: List.replicate l.length low) else none

theorem next_last {low high : Int} : ∀ n, next low high (List.replicate n high) = none
  | 0 => rfl
  | n + 1 => by rw [List.replicate_succ, next, next_last n]; simp

theorem next_step {low high x : Int} (hx : x < high) {m : Nat} : ∀ (p : List Int), next low high (p ++ x :: List.replicate m high) = some (p ++ (x + 1) :: List.replicate m low)
  | [] => by simp [next, next_last, hx]
  | y :: p => by simp only [List.cons_append, next, next_step hx p]

theorem next_len {low high : Int} : ∀ {l l' : List Int}, next low high l = some l' → l'.length = l.length
  | [], l', h => by simp [next] at h
  | x :: l, l', h => by
    simp only [next] at h
    split at h
    · rename_i l2 h2
      simp only [Option.some.injEq] at h; subst h
      simp [next_len h2]
    · split at h
      · simp only [Option.some.injEq] at h; subst h; simp
      · simp at h

/-- 'Behind each list of L stands its next one.' -/
def Ch (low high : Int) (L : List (List Int)) : Prop := ∀ (k : Nat) (l : List Int), L[k]? = some l → L[k + 1]? = next low high l

theorem blocks_ch {low high : Int} {L : List (List Int)} {n : Nat} (hL : Ch low high L) (h0 : L[0]? = some (List.replicate n low)) (hlen : ∀ l ∈ L, l.length = n) :
    ∀ (m : Nat) (x : Int), x + (m : Int) = high + 1 → Ch low high (blocks L x m)
  | 0, x, _ => by intro k l h; simp [blocks] at h
  | m + 1, x, hx => by
    intro k l h
    have ih := blocks_ch hL h0 hlen m (x + 1) (by omega)
    simp only [blocks] at h ⊢
    have hll : (L.map (x :: ·)).length = L.length := by simp
    by_cases hk : k < L.length
    · rw [List.getElem?_append_left (by rw [hll]; exact hk)] at h
      rw [List.getElem?_map, Option.map_eq_some_iff] at h
      obtain ⟨l0, hl0, rfl⟩ := h
      have hn := hL k l0 hl0
      by_cases hk1 : k + 1 < L.length
      · rw [List.getElem?_append_left (by rw [hll]; exact hk1), List.getElem?_map]
        rw [List.getElem?_eq_getElem hk1] at hn ⊢
        simp only [next, ← hn, Option.map_some]
      · have hnone : next low high l0 = none := by rw [← hn]; exact List.getElem?_eq_none (by omega)
        have hl0n := hlen l0 (List.mem_of_getElem? hl0)
        rw [List.getElem?_append_right (by rw [hll]; omega), hll, show k + 1 - L.length = 0 by omega]
        simp only [next, hnone]
        cases m with
        | zero =>
          rw [if_neg (by omega)]
          simp [blocks]
        | succ m =>
          rw [if_pos (by omega), hl0n]
          simp only [blocks]
          rw [List.getElem?_append_left (by simp; have := (List.getElem?_eq_some_iff.1 h0).1; omega), List.getElem?_map, h0]
          rfl
    · rw [List.getElem?_append_right (by rw [hll]; omega), hll] at h
      rw [List.getElem?_append_right (by rw [hll]; omega), hll, show k + 1 - L.length = k - L.length + 1 by omega]
      exact ih _ l h

theorem blocks_mem {L : List (List Int)} {l : List Int} : ∀ {m : Nat} {x : Int}, l ∈ blocks L x m → ∃ y l0, l = y :: l0 ∧ l0 ∈ L ∧ x ≤ y ∧ y < x + m
  | 0, x, h => by simp [blocks] at h
  | m + 1, x, h => by
    simp only [blocks, List.mem_append, List.mem_map] at h
    rcases h with ⟨l0, h1, rfl⟩ | h
    · exact ⟨x, l0, rfl, h1, Int.le_refl _, by omega⟩
    · obtain ⟨y, l0, h1, h2, h3, h4⟩ := blocks_mem h
      exact ⟨y, l0, h1, h2, by omega, by omega⟩

theorem allL_mem {low high : Int} : ∀ {n : Nat} {l : List Int}, l ∈ allL low high n → l.length = n ∧ ∀ x ∈ l, low ≤ x ∧ x ≤ high
  | 0, l, h => by simp [allL] at h; subst h; simp
  | n + 1, l, h => by
    simp only [allL] at h
    obtain ⟨y, l0, rfl, h2, h3, h4⟩ := blocks_mem h
    obtain ⟨g1, g2⟩ := allL_mem h2
    refine ⟨by simp [g1], fun z hz => ?_⟩
    rcases List.mem_cons.1 hz with rfl | hz
    · omega
    · exact g2 z hz

theorem allL_head {low high : Int} (h : low ≤ high) : ∀ n, (allL low high n)[0]? = some (List.replicate n low)
  | 0 => rfl
  | n + 1 => by
    obtain ⟨m, hm⟩ : ∃ m, (high + 1 - low).toNat = m + 1 := ⟨(high - low).toNat, by omega⟩
    have ih := allL_head h n
    simp only [allL, hm, blocks]
    rw [List.getElem?_append_left (by simp; exact (List.getElem?_eq_some_iff.1 ih).1), List.getElem?_map, ih]
    rfl

theorem allL_ch {low high : Int} (h : low ≤ high) : ∀ n, Ch low high (allL low high n)
  | 0 => by
    intro k l hk
    cases k with
    | zero => simp [allL] at hk ⊢; subst hk; rfl
    | succ k => simp [allL] at hk
  | n + 1 => by
    simp only [allL]
    exact blocks_ch (allL_ch h n) (allL_head h n) (fun l hl => (allL_mem hl).1) _ _ (by omega)

/-- From the end of the list back to the first number that is not the highest. -/
theorem next_at {low high : Int} {l : List Int} {j : Nat} (hj : j < l.length) (hx : l[j] < high) (hd : l.drop (j + 1) = List.replicate (l.length - (j + 1)) high) : next low high l = some (l.take j ++ (l[j] + 1) :: List.replicate (l.length - (j + 1)) low) := by
  have : l = l.take j ++ l[j] :: List.replicate (l.length - (j + 1)) high := by
    rw [← hd]
    conv => lhs; rw [← List.take_append_drop j l, List.drop_eq_getElem_cons hj]
  conv => lhs; rw [this]
  exact next_step hx _

end Go.Proofs.YtiieikknhheffaaGreatDoor.Ax

/-
  Contracts: the lists over a range of numbers, one after the other, as the program yields them. No condition.
-/
namespace Go.Proofs.YtiieikknhheffaaGreatDoor.Ax
open Go Go.RowKit
set_option linter.unusedSimpArgs false


/-- Behind the search from the end: the first j numbers as they were. -/
def lowTo (low : Int) (l : List Int) (j : Nat) : List Int := l.take j ++ List.replicate (l.length - j) low
theorem lowTo_len {low : Int} {l : List Int} {j : Nat} (h : j ≤ l.length) : (lowTo low l j).length = l.length := by simp [lowTo]; omega

theorem lowTo_set {low v : Int} {l : List Int} {j : Nat} (h : j < l.length) : ((lowTo low l (j + 1)).map int).set j (.v (.int .i64 v)) = (l.take j ++ v :: List.replicate (l.length - (j + 1)) low).map int := by
  have hi : (AV.v (.int .i64 v)) = int v := rfl
  rw [hi, ← List.map_set]
  congr 1
  unfold lowTo
  rw [List.take_succ_eq_append_getElem h, List.append_assoc, List.set_append_right _ _ (by simp; omega)]
  simp [Nat.min_eq_left (Nat.le_of_lt h)]
theorem lowTo_low {low : Int} {l : List Int} {j : Nat} (h : j < l.length) : lowTo low l j = l.take j ++ low :: List.replicate (l.length - (j + 1)) low := by
  unfold lowTo
  rw [show l.length - j = l.length - (j + 1) + 1 by omega, List.replicate_succ]
theorem lowTo_get {low : Int} {l : List Int} {j : Nat} (h : j < l.length) (h' : j < (lowTo low l (j + 1)).length) : (lowTo low l (j + 1))[j] = l[j] := by
  simp only [lowTo, List.getElem_append]
  rw [dif_pos (by simp; omega)]
  simp

end Go.Proofs.YtiieikknhheffaaGreatDoor.Ax

/-
  The first best one of some lists; the same by a search from the front. No condition.
-/
namespace Go.Proofs.YtiieikknhheffaaGreatDoor.Ax
open Go Go.RowKit

/-- Of two the better one; the first, where they are as good. -/
def comb (W : List Int → Int) : Option (List Int) → Option (List Int) → Option (List Int)
  | none, b => b
  | some a, none => some a
  | some a, some b => if W b > W a then some b else some a

theorem comb_none {W : List Int → Int} {a : Option (List Int)} : comb W a none = a := by cases a <;> rfl

theorem comb_assoc {W : List Int → Int} (a b c : Option (List Int)) : comb W (comb W a b) c = comb W a (comb W b c) := by
  cases a with
  | none => rfl
  | some a => cases b with
    | none => rfl
    | some b => cases c with
      | none => simp only [comb_none]
      | some c =>
        simp only [comb]
        by_cases h1 : W b > W a <;> by_cases h2 : W c > W b <;> by_cases h3 : W c > W a <;> simp [h1, h2, h3] <;> omega

/-- The first best one of those that are good. -/
def bestO (W : List Int → Int) (ok : List Int → Bool) : List (List Int) → Option (List Int)
  | [] => none
  | l :: L => comb W (if ok l = true then some l else none) (bestO W ok L)

theorem bestO_app {W : List Int → Int} {ok : List Int → Bool} : ∀ {A B : List (List Int)}, bestO W ok (A ++ B) = comb W (bestO W ok A) (bestO W ok B)
  | [], B => rfl
  | l :: A, B => by simp only [List.cons_append, bestO, bestO_app, comb_assoc]

/-- One more. -/
def pick1 (W : List Int → Int) (ok : List Int → Bool) (o : Option (List Int)) (l : List Int) : Option (List Int) := comb W o (if ok l = true then some l else none)

theorem bestO_take {W : List Int → Int} {ok : List Int → Bool} {L : List (List Int)} {k : Nat} (h : k < L.length) : bestO W ok (L.take (k + 1)) = pick1 W ok (bestO W ok (L.take k)) L[k] := by
  rw [List.take_succ_eq_append_getElem h, bestO_app]
  simp only [bestO, pick1, comb_none]

theorem bestO_mem {W : List Int → Int} {ok : List Int → Bool} : ∀ {L : List (List Int)} {l : List Int}, bestO W ok L = some l → l ∈ L ∧ ok l = true
  | [], l, h => by simp [bestO] at h
  | x :: L, l, h => by
    simp only [bestO] at h
    have key : ∀ {a b : Option (List Int)}, comb W a b = some l → a = some l ∨ b = some l := by
      intro a b
      cases a with
      | none => exact .inr
      | some a => cases b with
        | none => exact .inl
        | some b =>
          simp only [comb]
          split
          · exact .inr
          · exact .inl
    rcases key h with h | h
    · split at h
      · simp only [Option.some.injEq] at h; subst h; exact ⟨by simp, by assumption⟩
      · simp at h
    · obtain ⟨h1, h2⟩ := bestO_mem h; exact ⟨by simp [h1], h2⟩

theorem bestO_none {W : List Int → Int} {ok : List Int → Bool} : ∀ {L : List (List Int)}, (∀ l ∈ L, ok l = false) → bestO W ok L = none
  | [], _ => rfl
  | x :: L, h => by
    simp only [bestO, h x (by simp), Bool.false_eq_true, if_false]
    rw [bestO_none fun l hl => h l (by simp [hl])]; rfl

/-- The search: 'list' is continued by r numbers from low on (m: how many numbers there are); 'sk' says which number is passed over. -/
def bestS (W : List Int → Int) (sk : List Int → Int → Bool) (low : Int) (m : Nat) : Nat → List Int → Option (List Int)
  | 0, l => some l
  | r + 1, l => (List.range m).foldl (fun o (i : Nat) => if sk l (low + i) = true then o else comb W o (bestS W sk low m r (l ++ [low + i]))) none

theorem foldl_comb {W : List Int → Int} {f : Nat → Option (List Int)} {g : Option (List Int) → Nat → Option (List Int)} (hg : ∀ o i, g o i = comb W o (f i)) : ∀ {l : List Nat} {o : Option (List Int)}, l.foldl g o = comb W o (l.foldl g none)
  | [], o => by simp [comb_none]
  | i :: l, o => by
    simp only [List.foldl_cons, hg]
    rw [foldl_comb hg (l := l) (o := comb W o (f i)), foldl_comb hg (l := l) (o := comb W none (f i)), comb_assoc]; rfl

/-- Both searches find the same. -/
theorem bestS_eq {W : List Int → Int} {ok : List Int → Bool} {sk : List Int → Int → Bool} {low high : Int} {n : Nat} (hlh : low ≤ high + 1) (hsk : ∀ l x m, ok l = true → l.length < n → sk l x = true → ok (l ++ x :: m) = false) (hkp : ∀ l x, ok l = true → l.length < n → sk l x = false → ok (l ++ [x]) = true) :
    ∀ (r : Nat) (l : List Int), ok l = true → l.length + r = n → bestS W sk low (high + 1 - low).toNat r l = bestO W ok ((allL low high r).map (l ++ ·))
  | 0, l, hl, _ => by simp [bestS, allL, bestO, hl, comb]
  | r + 1, l, hl, hn => by
    have ih := bestS_eq (W := W) hlh hsk hkp r
    simp only [bestS, allL]
    -- the blocks, from number i on
    have key : ∀ (m i : Nat), ((List.range' i m).foldl (fun o (i : Nat) => if sk l (low + i) = true then o else comb W o (bestS W sk low (high + 1 - low).toNat r (l ++ [low + i]))) none) = bestO W ok ((blocks (allL low high r) (low + i) m).map (l ++ ·)) := by
      intro m
      induction m with
      | zero => intro i; simp [blocks, bestO]
      | succ m im =>
        intro i
        rw [List.range'_succ, List.foldl_cons, foldl_comb (W := W) (f := fun i => if sk l (low + i) = true then none else bestS W sk low (high + 1 - low).toNat r (l ++ [low + i])) (fun o i => by split <;> simp [comb_none])]
        rw [im (i + 1), blocks, List.map_append, bestO_app]
        congr 1
        · rw [List.map_map]
          have e : ((l ++ ·) ∘ ((low + (i : Int)) :: ·)) = fun l' => l ++ (low + (i : Int)) :: l' := rfl
          rw [e]
          by_cases hs : sk l (low + i) = true
          · rw [if_pos hs, bestO_none]
            intro l' hl'
            obtain ⟨l0, _, rfl⟩ := List.mem_map.1 hl'
            exact hsk l _ l0 hl (by omega) hs
          · rw [if_neg hs]
            have hs' : sk l (low + i) = false := by simpa using hs
            have : comb W none (bestS W sk low (high + 1 - low).toNat r (l ++ [low + (i : Int)])) = bestS W sk low (high + 1 - low).toNat r (l ++ [low + (i : Int)]) := rfl
            rw [this, ih (l ++ [low + (i : Int)]) (hkp l _ hl (by omega) hs') (by simp; omega)]
            congr 1
            exact List.map_congr_left fun l' _ => by simp
        · congr 3; push_cast; omega
    have := key (high + 1 - low).toNat 0
    rw [← List.range_eq_range'] at this
    rw [this]
    congr 2
    simp

/-! The awards. -/

/-- 'No thing twice; the bidder wo gets nothing', of a list that may go on. -/
def okP (wo : Int) (l : List Int) : Bool := isAwd l && !(decide (0 ≤ wo) && decide (wo < l.length) && decide (0 ≤ l.getD wo.toNat 0))
/-- Number x may not come next. -/
def skP (wo : Int) (l : List Int) (x : Int) : Bool := decide (0 ≤ x) && (decide (0 ≤ pos l x) || decide ((l.length : Int) = wo))

theorem getD_app {l m : List Int} {i : Nat} (h : i < l.length) : (l ++ m).getD i 0 = l.getD i 0 := by
  rw [List.getD_eq_getElem?_getD, List.getD_eq_getElem?_getD, List.getElem?_append_left h]

theorem awAt_app {l m : List Int} {i : Nat} (h : i < l.length) : awAt (l ++ m) i = awAt l i := by
  unfold awAt
  rw [getD_app h, List.take_append_of_le_length (by omega)]

theorem awAt_last {l : List Int} {x : Int} {m : List Int} : awAt (l ++ x :: m) l.length = !(decide (0 ≤ x) && decide (0 ≤ pos l x)) := by
  unfold awAt
  rw [List.take_append_of_le_length (Nat.le_refl _), List.take_length]
  simp [List.getD_eq_getElem?_getD]

theorem isAwd_app {l : List Int} {x : Int} : isAwd (l ++ [x]) = (isAwd l && !(decide (0 ≤ x) && decide (0 ≤ pos l x))) := by
  unfold isAwd allR
  rw [List.length_append, List.length_singleton, List.range_succ, List.all_append]
  congr 1
  · rw [Bool.eq_iff_iff, List.all_eq_true, List.all_eq_true]
    exact ⟨fun h i hi => by rw [← awAt_app (m := [x]) (by simpa using hi)]; exact h i hi, fun h i hi => by rw [awAt_app (by simpa using hi)]; exact h i hi⟩
  · simp [awAt_last]

theorem okP_nil {wo : Int} : okP wo [] = true := by
  simp only [okP, Bool.and_eq_true, Bool.not_eq_true']
  refine ⟨rfl, ?_⟩
  simp only [List.length_nil, Bool.and_eq_false_iff, decide_eq_false_iff_not]
  omega

theorem okP_keep {wo : Int} {l : List Int} {x : Int} (h : okP wo l = true) (hs : skP wo l x = false) : okP wo (l ++ [x]) = true := by
  simp only [okP, skP, isAwd_app, Bool.and_eq_true, Bool.not_eq_true', Bool.and_eq_false_iff, Bool.or_eq_false_iff, decide_eq_false_iff_not, List.length_append, List.length_singleton] at h hs ⊢
  obtain ⟨h1, h2⟩ := h
  refine ⟨⟨h1, ?_⟩, ?_⟩
  · rcases hs with hs | ⟨hs, _⟩
    · exact .inl hs
    · exact .inr hs
  · by_cases h0 : 0 ≤ wo
    · by_cases hw : wo < l.length
      · rw [getD_app (by omega)]
        rcases h2 with (h2 | h2) | h2
        · exact (h2 h0).elim
        · exact (h2 hw).elim
        · exact .inr h2
      · by_cases he : wo = l.length
        · right
          subst he
          rcases hs with hs | ⟨_, hs⟩
          · simp [List.getD_eq_getElem?_getD]; omega
          · exact (hs rfl).elim
        · left; right; push_cast; omega
    · exact .inl (.inl h0)

theorem okP_skip {wo : Int} {l : List Int} {x : Int} {m : List Int} (hs : skP wo l x = true) : okP wo (l ++ x :: m) = false := by
  simp only [skP, Bool.and_eq_true, Bool.or_eq_true, decide_eq_true_eq] at hs
  obtain ⟨hx, hs⟩ := hs
  simp only [okP, Bool.and_eq_false_iff, Bool.not_eq_false', Bool.and_eq_true, decide_eq_true_eq]
  rcases hs with hs | hs
  · left
    exact allR_no (k := l.length) (by simp) (by rw [awAt_last]; simp [hx, hs])
  · right
    subst hs
    refine ⟨⟨by omega, by simp; omega⟩, ?_⟩
    simp [List.getD_eq_getElem?_getD, hx]

theorem bestS_award {W : List Int → Int} {wo high : Int} {n : Nat} (hh : -1 ≤ high + 1) : bestS W (skP wo) (-1) (high + 1 - -1).toNat n [] = bestO W (okP wo) (allL (-1) high n) := by
  have := bestS_eq (W := W) (ok := okP wo) (sk := skP wo) (low := -1) (high := high) (n := n) hh (fun l x m _ _ hs => okP_skip hs) (fun l x h _ hs => okP_keep h hs) n [] okP_nil (by simp)
  rw [this]; simp

end Go.Proofs.YtiieikknhheffaaGreatDoor.Ax

/-
  Contracts: slices.Clone, the lists, the best award of the program. No condition.
-/
namespace Go.Proofs.YtiieikknhheffaaGreatDoor.Ax
open Go Go.RowKit
set_option linter.unusedSimpArgs false

noncomputable def mClone : List AV → Option AV := mk (fun p => p.2.length ≤ 1000000) (fun (p : (Bool) × (List Int)) => [ints p.1 p.2]) (fun p => ints p.1 p.2)
theorem mClone_at (nl : Bool) (xs : List Int) (hpre : xs.length ≤ 1000000) : mClone [.sl nl 1 (xs.map int)] = some (.sl nl 1 ((xs).map int)) :=
  mk_eq (enc := fun (p : (Bool) × (List Int)) => [ints p.1 p.2]) (x := (nl, xs)) (by rintro ⟨a0, a1⟩ ⟨b0, b1⟩ h; simp [ints, intss, int, bool, row, frac, fracs, map_int_inj, map_row_inj, frac_inj, map_frac_inj] at h; simp [h]) hpre

end Go.Proofs.YtiieikknhheffaaGreatDoor.Ax

/-
  Contracts: the best award (the program's own search). No condition.
-/
namespace Go.Proofs.YtiieikknhheffaaGreatDoor.Ax
open Go Go.RowKit
set_option linter.unusedSimpArgs false

/-- The best so far, as it lies in memory. -/
def bestAV : Option (List Int) → AV
  | none => .sl true 1 []
  | some l => .sl false 1 (l.map int)

/-- The worth of a whole award. -/
def wAw (xss : List (Bool × List Int)) (l : List Int) : Int := awTo xss l l.length

noncomputable def mBestA : List AV → Option AV := mk (fun p => rectB p.2.1 4 4 1000 = true ∧ -1 ≤ p.2.2 ∧ p.2.2 < p.2.1.length) (fun (p : Bool × List (Bool × List Int) × Int) => [intss p.1 p.2.1, int p.2.2])
  (fun p => bestAV (bestO (wAw p.2.1) (okP p.2.2) (allL (-1) ((wid p.2.1 : Int) - 1) p.2.1.length)))
theorem mBestA_at (nl : Bool) (xss : List (Bool × List Int)) (wo : Int) (h : rectB xss 4 4 1000 = true ∧ -1 ≤ wo ∧ wo < xss.length) : mBestA [.sl nl 1 (xss.map row), .v (.int .i64 wo)] = some (bestAV (bestO (wAw xss) (okP wo) (allL (-1) ((wid xss : Int) - 1) xss.length))) :=
  mk_eq (enc := fun (p : Bool × List (Bool × List Int) × Int) => [intss p.1 p.2.1, int p.2.2]) (x := (nl, xss, wo)) (by rintro ⟨a, b, c⟩ ⟨d, e, f⟩ h; simp [intss, int, map_row_inj] at h; simp [h]) h

theorem wAw_pre {xss : List (Bool × List Int)} (h : rectB xss 4 4 1000 = true) {l : List Int} (hl : l ∈ allL (-1) ((wid xss : Int) - 1) xss.length) : l.length ≤ xss.length ∧ ∀ i, i < l.length → l.getD i 0 < ((xss.getD i (true, [])).2.length : Int) := by
  obtain ⟨h1, h2⟩ := allL_mem hl
  refine ⟨by omega, fun i hi => ?_⟩
  have := (h2 _ (List.getElem_mem hi)).2
  have hr := (rect_row h (i := i) (by omega)).1
  rw [getD_at hi, List.getD_eq_getElem?_getD, List.getElem?_eq_getElem (by omega)]
  simp only [Option.getD_some]; omega

end Go.Proofs.YtiieikknhheffaaGreatDoor.Ax

/-
  Contracts: the best award (the reference's search). No condition.
-/
namespace Go.Proofs.YtiieikknhheffaaGreatDoor.Ax
open Go Go.RowKit
set_option linter.unusedSimpArgs false

/-- What the search from the front is asked. -/
def LB (xss : List (Bool × List Int)) (l : List Int) (wo : Int) (r : Nat) : Prop := rectB xss 4 4 1000 = true ∧ -1 ≤ wo ∧ l.length + r = xss.length ∧ okP wo l = true ∧ ∀ x ∈ l, -1 ≤ x ∧ x ≤ (wid xss : Int) - 1

noncomputable def bs (xss : List (Bool × List Int)) (wo : Int) (r : Nat) (l : List Int) : Option (List Int) := bestS (wAw xss) (skP wo) (-1) (wid xss + 1) r l

theorem bs_eq {xss : List (Bool × List Int)} {l : List Int} {wo : Int} {r : Nat} (h : LB xss l wo r) : bs xss wo r l = bestO (wAw xss) (okP wo) ((allL (-1) ((wid xss : Int) - 1) r).map (l ++ ·)) := by
  have := bestS_eq (W := wAw xss) (ok := okP wo) (sk := skP wo) (low := -1) (high := (wid xss : Int) - 1) (n := xss.length) (by omega) (fun l x m _ _ hs => okP_skip hs) (fun l x h _ hs => okP_keep h hs) r l h.2.2.2.1 h.2.2.1
  rw [← this]
  unfold bs
  congr 1; omega

theorem lb_pre {xss : List (Bool × List Int)} (h : rectB xss 4 4 1000 = true) {l : List Int} (hl : l.length ≤ xss.length) (hr : ∀ x ∈ l, -1 ≤ x ∧ x ≤ (wid xss : Int) - 1) : l.length ≤ xss.length ∧ ∀ i, i < l.length → l.getD i 0 < ((xss.getD i (true, [])).2.length : Int) := by
  refine ⟨hl, fun i hi => ?_⟩
  have := (hr _ (List.getElem_mem hi)).2
  have hr := (rect_row h (i := i) (by omega)).1
  rw [getD_at hi, List.getD_eq_getElem?_getD, List.getElem?_eq_getElem (by omega)]
  simp only [Option.getD_some]; omega

/-- The first number of the range is never passed over: something is found. -/
theorem bs_some {xss : List (Bool × List Int)} {wo : Int} : ∀ (r : Nat) (l : List Int), ∃ l', bs xss wo r l = some l'
  | 0, l => ⟨l, rfl⟩
  | r + 1, l => by
    obtain ⟨l1, h1⟩ := bs_some r (l ++ [-1])
    unfold bs at h1 ⊢
    simp only [bestS]
    rw [List.range_succ_eq_map, List.foldl_cons]
    have hs : skP wo l (-1 + ((0 : Nat) : Int)) = false := by simp [skP]
    rw [hs]
    simp only [Bool.false_eq_true, if_false]
    have h1' : bestS (wAw xss) (skP wo) (-1) (wid xss + 1) r (l ++ [-1 + ((0 : Nat) : Int)]) = some l1 := h1
    rw [h1']
    have key : ∀ (L : List Nat) (g : Option (List Int) → Nat → Option (List Int)) (a : List Int), (∀ a i, ∃ b, g (some a) i = some b) → ∃ b, L.foldl g (some a) = some b := by
      intro L
      induction L with
      | nil => intro g a _; exact ⟨a, rfl⟩
      | cons i L ih =>
        intro g a hg
        obtain ⟨b, hb⟩ := hg a i
        rw [List.foldl_cons, hb]; exact ih g b hg
    refine key _ _ l1 fun a i => ?_
    split
    · exact ⟨a, rfl⟩
    · cases bestS (wAw xss) (skP wo) (-1) (wid xss + 1) r (l ++ [-1 + (i : Int)]) with
      | none => exact ⟨a, rfl⟩
      | some b => simp only [comb]; split <;> exact ⟨_, rfl⟩

theorem bs_mem {xss : List (Bool × List Int)} {l : List Int} {wo : Int} {r : Nat} (h : LB xss l wo r) {l' : List Int} (hl : bs xss wo r l = some l') : l'.length = xss.length ∧ (∀ x ∈ l', -1 ≤ x ∧ x ≤ (wid xss : Int) - 1) ∧ okP wo l' = true := by
  rw [bs_eq h] at hl
  obtain ⟨h1, h2⟩ := bestO_mem hl
  obtain ⟨l2, h3, rfl⟩ := List.mem_map.1 h1
  obtain ⟨h4, h5⟩ := allL_mem h3
  refine ⟨by rw [List.length_append, h4]; exact h.2.2.1, fun x hx => ?_, h2⟩
  rcases List.mem_append.1 hx with hx | hx
  · exact h.2.2.2.2 x hx
  · exact h5 x hx

theorem LB.step {xss : List (Bool × List Int)} {l : List Int} {wo : Int} {r : Nat} (h : LB xss l wo (r + 1)) {x : Int} (hx : -1 ≤ x ∧ x ≤ (wid xss : Int) - 1) (hs : skP wo l x = false) : LB xss (l ++ [x]) wo r := by
  obtain ⟨h1, h2, h3, h4, h5⟩ := h
  refine ⟨h1, h2, by simp; omega, okP_keep h4 hs, fun y hy => ?_⟩
  rcases List.mem_append.1 hy with hy | hy
  · exact h5 y hy
  · simp at hy; subst hy; exact hx

noncomputable def mLB (r : Nat) : List AV → Option (List Nat × AV) := mkV (fun p => LB p.2.1 p.2.2.1 p.2.2.2 r) (fun (p : Bool × List (Bool × List Int) × List Int × Int) => [intss p.1 p.2.1, ints false p.2.2.1, int p.2.2.2]) [1] (fun p => ints false ((bs p.2.1 p.2.2.2 r p.2.2.1).getD []))
theorem mLB_at (r : Nat) (nl : Bool) (xss : List (Bool × List Int)) (l : List Int) (wo : Int) (h : LB xss l wo r) : mLB r [.sl nl 1 (xss.map row), .sl false 1 (l.map int), .v (.int .i64 wo)] = some ([1], .sl false 1 (((bs xss wo r l).getD []).map int)) :=
  mkV_eq (enc := fun (p : Bool × List (Bool × List Int) × List Int × Int) => [intss p.1 p.2.1, ints false p.2.2.1, int p.2.2.2]) (x := (nl, xss, l, wo)) (by rintro ⟨a, b, c, d⟩ ⟨e, f, g, h'⟩ h; simp [intss, ints, int, map_row_inj, map_int_inj] at h; simp [h]) h

/-- The best so far. -/
noncomputable def bsTo (xss : List (Bool × List Int)) (wo : Int) (r : Nat) (l : List Int) (k : Nat) : Option (List Int) :=
  (List.range k).foldl (fun o (i : Nat) => if skP wo l (-1 + (i : Int)) = true then o else comb (wAw xss) o (bs xss wo r (l ++ [-1 + (i : Int)]))) none
theorem bsTo_succ {xss : List (Bool × List Int)} {wo : Int} {r : Nat} {l : List Int} {k : Nat} : bsTo xss wo r l (k + 1) = if skP wo l (-1 + (k : Int)) = true then bsTo xss wo r l k else comb (wAw xss) (bsTo xss wo r l k) (bs xss wo r (l ++ [-1 + (k : Int)])) := by
  unfold bsTo
  rw [List.range_succ, List.foldl_append]; rfl
theorem bsTo_all {xss : List (Bool × List Int)} {wo : Int} {r : Nat} {l : List Int} : bsTo xss wo r l (wid xss + 1) = bs xss wo (r + 1) l := rfl
theorem bsTo_mem {xss : List (Bool × List Int)} {l : List Int} {wo : Int} {r : Nat} (h : LB xss l wo (r + 1)) : ∀ {k : Nat}, k ≤ wid xss + 1 → ∀ {b : List Int}, bsTo xss wo r l k = some b → b.length = xss.length ∧ ∀ x ∈ b, -1 ≤ x ∧ x ≤ (wid xss : Int) - 1
  | 0, _, b, hb => by simp [bsTo] at hb
  | k + 1, hk, b, hb => by
    rw [bsTo_succ] at hb
    split at hb
    · exact bsTo_mem h (by omega) hb
    · rename_i hs
      have hs' : skP wo l (-1 + (k : Int)) = false := by simpa using hs
      have hst := h.step (x := -1 + (k : Int)) ⟨by omega, by omega⟩ hs'
      obtain ⟨l1, h1⟩ := bs_some (xss := xss) (wo := wo) r (l ++ [-1 + (k : Int)])
      rw [h1] at hb
      have hm := bs_mem hst h1
      cases ho : bsTo xss wo r l k with
      | none => rw [ho] at hb; simp only [comb, Option.some.injEq] at hb; subst hb; exact ⟨hm.1, hm.2.1⟩
      | some a =>
        rw [ho] at hb
        simp only [comb] at hb
        split at hb
        · simp only [Option.some.injEq] at hb; subst hb; exact ⟨hm.1, hm.2.1⟩
        · simp only [Option.some.injEq] at hb; subst hb; exact bsTo_mem h (by omega) ho

end Go.Proofs.YtiieikknhheffaaGreatDoor.Ax
