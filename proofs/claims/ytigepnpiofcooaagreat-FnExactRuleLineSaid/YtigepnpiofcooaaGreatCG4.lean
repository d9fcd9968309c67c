/-
  The plain side of stable matchings: pairs that block, in two orders. Plain Lean, no program in sight.
-/
import Derived.Test.YtigepnpiofcooaaGreatCG3
import Derived.Test.YtigepnpiofcooaaGreatCG1
import Derived.Shelf.Bits.Mul64
import Derived.Test.YtigepnpiofcooaaGreatCB1
import Derived.Test.YtigepnpiofcooaaGreatCK4
import Derived.Test.YtigepnpiofcooaaGreatCB2
import Derived.Test.YtigepnpiofcooaaGreatCG2
namespace Go.Proofs.YtigepnpiofcooaaGreat.Ax
open Go Go.RowKit
set_option linter.unusedSimpArgs false
set_option linter.unusedVariables false
theorem pfB_self {l : List Int} {a : Int} : pfB l a a = false := by simp [pfB]
end Go.Proofs.YtigepnpiofcooaaGreat.Ax
namespace Go.Proofs.YtigepnpiofcooaaGreat.Ax
open Go Go.RowKit
set_option linter.unusedSimpArgs false
def renMul : Go.Shelf.Ren := ⟨fun _ => 148, fun x => if x = 46 then 87 else 104, fun x => x⟩
theorem lay_mul : Go.Proofs.Lays.n264 Tryz.prog renMul := {
  mixed := by kernel_rfl
  f264 := Tryz.func148.trans (congrArg some (by kernel_rfl))
  t46 := by kernel_rfl
  a46 := fun _ => run_isAgg (tyOf_ok ty87)
  z46 := fun _ => run_size (tyOf_ok ty87)
  v46 := fun _ => run_zero (tyOf_ok ty87)
  t53 := by kernel_rfl
  a53 := fun _ => run_isAgg (tyOf_ok ty104)
  z53 := fun _ => run_size (tyOf_ok ty104)
  v53 := fun _ => run_zero (tyOf_ok ty104) }
noncomputable def mMul64 : List AV → Option AV := mk (fun p => p.1 < 18446744073709551616 ∧ p.2 < 18446744073709551616) (fun (p : Nat × Nat) => [.v (.int .u64 (p.1 : Int)), .v (.int .u64 (p.2 : Int))])
  (fun p => .tup [.v (.int .u64 ((p.1 * p.2 / 18446744073709551616 : Nat) : Int)), .v (.int .u64 ((p.1 * p.2 % 18446744073709551616 : Nat) : Int))])
theorem mMul64_at (x y : Nat) (h : x < 18446744073709551616 ∧ y < 18446744073709551616) : mMul64 [.v (.int .u64 (x : Int)), .v (.int .u64 (y : Int))] = some (.tup [.v (.int .u64 ((x * y / 18446744073709551616 : Nat) : Int)), .v (.int .u64 ((x * y % 18446744073709551616 : Nat) : Int))]) :=
  mk_eq (enc := fun (p : Nat × Nat) => [.v (.int .u64 (p.1 : Int)), .v (.int .u64 (p.2 : Int))]) (x := (x, y)) (by rintro ⟨a, b⟩ ⟨c, d⟩ h; simp at h; simp [h]) h
theorem mul64_ok : FnOk Tryz.prog 148 mMul64 := by
  refine mk_ok fun ⟨x, y⟩ ⟨hx, hy⟩ => ?_
  refine ⟨⟨_, Tryz.func148, by kernel_rfl, by kernel_rfl⟩, fun w F vals hF hv => ?_⟩
  simp only [RepL, Rep] at hv
  obtain ⟨a, r1, e1, ⟨rfl, _⟩, b, r2, rfl, ⟨rfl, _⟩, rfl⟩ := hv
  have hvals : vals = #[.int .u64 (x : Int), .int .u64 (y : Int)] := by apply Array.ext'; rw [e1]
  subst hvals
  refine (Go.Proofs.Any.bits_Mul64 lay_mul x y hx hy w).mono fun e w' h => ?_
  obtain ⟨rfl, rfl⟩ := h
  refine ⟨_, fun _ => False, rfl, Frm.refl _ _, fun _ h => h.elim, ?_⟩
  simp only [Own, OwnL]
  exact ⟨_, rfl, _, _, fun _ => False, fun _ => False, rfl, fun _ h => h.elim, fun _ h => h.elim, fun _ h => h.elim, ⟨rfl, rfl⟩, _, _, fun _ => False, fun _ => False, rfl, fun _ h => h.elim, fun _ h => h.elim, fun _ h => h.elim, ⟨rfl, rfl⟩, rfl⟩
noncomputable def mMul : List AV → Option AV := mMul64
theorem mMul_at (x y : Nat) (h : x < 18446744073709551616 ∧ y < 18446744073709551616) : mMul [.v (.int .u64 (x : Int)), .v (.int .u64 (y : Int))] = some (.tup [.v (.int .u64 ((x * y / 18446744073709551616 : Nat) : Int)), .v (.int .u64 ((x * y % 18446744073709551616 : Nat) : Int))]) := mMul64_at x y h
theorem mul_ok : FnOk Tryz.prog 114 mMul := by
  unfold mMul mMul64
  refine mk_ok fun ⟨x, y⟩ h => ?_
  simp only at h
  have hG : FnsOk Tryz.prog [(148, mMul64)] := (.cons mul64_ok .nil)
  refine callOk_awp (ctx_ok eqOk hG) mixed (live := [true, true, false, false, true, true, true, true, true, true]) (dt := []) Tryz.func114 rfl (by kernel_rfl) (by kernel_rfl) fun w0 hlens => ?_
  clear hlens
  simp (config := {contextual := true}) [Tryz.f114, List.range, List.range.loop, ints, intss, int, bool, row, frac, fracs, ← List.map_take, ← List.map_drop, mMul64_at, h]
def repTo (x : Int) (n m : Nat) : List AV := List.replicate m (int x) ++ List.replicate (n - m) (int 0)
theorem repTo_len {x : Int} {n m : Nat} (h : m ≤ n) : (repTo x n m).length = n := by simp [repTo]; omega
theorem repTo_scal {x : Int} {n m : Nat} : allS (repTo x n m) = true := by
  rw [allS, List.all_eq_true]
  intro e he
  simp only [repTo, List.mem_append, List.mem_replicate] at he
  rcases he with ⟨_, rfl⟩ | ⟨_, rfl⟩ <;> rfl
theorem repTo_step {x : Int} {n m k : Nat} (_h : m + k ≤ n) (hk : k ≤ m) : (repTo x n m).take m ++ (viewEs (repTo x n m) 0 m).take k ++ (repTo x n m).drop (m + k) = repTo x n (m + k) := by
  have e1 : (repTo x n m).take m = List.replicate m (int x) := by simp [repTo]
  have e2 : viewEs (repTo x n m) 0 m = List.replicate m (int x) := by simp [viewEs, e1]
  have e3 : (repTo x n m).drop (m + k) = List.replicate (n - (m + k)) (int 0) := by
    simp [repTo, List.drop_append]; omega
  rw [e1, e2, e3, List.take_replicate, Nat.min_eq_left hk]
  simp [repTo, List.replicate_append_replicate]
theorem rep1 {a : AV} {n : Nat} : List.replicate (min 1 n) a = List.take (min 1 n) [a] := by
  rcases Nat.eq_zero_or_pos n with rfl | h
  · simp
  · rw [Nat.min_eq_left h]; simp
noncomputable def mRepeatI : List AV → Option AV := mk (fun p => p.2.2 ≤ 1000) (fun (p : Bool × Int × Nat) => [ints p.1 [p.2.1], int (p.2.2 : Int)]) (fun p => ints false (List.replicate p.2.2 p.2.1))
theorem mRepeatI_at (nl : Bool) (x : Int) (n : Nat) (h : n ≤ 1000) : mRepeatI [.sl nl 1 [.v (.int .i64 x)], .v (.int .i64 (n : Int))] = some (.sl false 1 ((List.replicate n x).map int)) :=
  mk_eq (enc := fun (p : Bool × Int × Nat) => [ints p.1 [p.2.1], int (p.2.2 : Int)]) (x := (nl, x, n)) (by rintro ⟨a, b, c⟩ ⟨d, e, f⟩ h; simp [ints, int] at h; obtain ⟨⟨rfl, rfl⟩, h⟩ := h; exact (by omega : c = f) ▸ rfl) h
theorem repeatI_ok : FnOk Tryz.prog 69 mRepeatI := by
  refine mk_ok fun ⟨nl, x, n⟩ hn => ?_
  simp only at hn
  have hG : FnsOk Tryz.prog [(114, mMul)] := (.cons mul_ok .nil)
  refine callOk_awp (ctx_ok eqOk hG) mixed (live := [true, true, false, false, true, true, true, true, true, false, true, false, false, false, false, false, false, false, false, false, false, false, false, false, false, false, true, false, false, false, false, false, false, false, false, false, false, true]) (dt := [(9, ⟨[], [], []⟩)]) Tryz.func69 rfl (by kernel_rfl) (by kernel_rfl) fun w0 hlens => ?_
  clear hlens
  have hw1 : IntKind.u64.wrap (n : Int) = (n : Int) := by rw [IntKind.wrap_u64]; omega
  have hw0 : IntKind.u64.wrap 1 = 1 := by decide
  have hn0 : ¬ ((n : Int) < 0) := by omega
  have hn1 : ¬ ((9223372036854775807 : Int) < (n : Int)) := by omega
  have hb : 8 * n ≤ 281474976710656 := by omega
  have hb2 : n ≤ 4611686018427387904 := by omega
  have hw2 : IntKind.i64.wrap (n : Int) = (n : Int) := wrapI (by omega) (by omega)
  have hd : (1 * n / 18446744073709551616) = 0 := by omega
  have he : (1 * n % 18446744073709551616) = n := by omega
  have hm : mMul [.v (.int .u64 1), .v (.int .u64 (n : Int))] = some (.tup [.v (.int .u64 0), .v (.int .u64 (n : Int))]) := by
    have := mMul_at 1 n (by omega)
    rw [hd, he] at this; exact this
  simp (config := {contextual := true}) [Tryz.f69, List.range, List.range.loop, ints, intss, int, bool, row, frac, fracs, ← List.map_take, ← List.map_drop, hw0, hw1, hw2, hn0, hn1, hb, hb2, hm, hn]
  refine awp_loop_of (live := [true, true, false, false, true, true, true, true, true, false, true, false, false, false, false, false, false, false, false, false, false, false, false, false, false, false, true, false, false, false, false, false, false, false, false, false, false, true]) (ctx_ok eqOk hG) mixed [false, false, false, false, false, false, false, true, true] (α := {m : Nat // m ≤ n ∧ (0 < n → 0 < m)}) (fun m => ⟨[.junk, .junk, .junk, .junk, .junk, .junk, .junk, .ref 0 [] 0 n, int (m.1 : Int), .junk, .junk, .junk, .junk, .junk, .junk, .junk, .junk, .junk, .junk, .junk, .junk, .junk, .junk, .junk, .junk, .junk, .junk, .junk, .junk, .junk, .junk, .junk, .junk, .junk, .junk, .junk, .junk, .junk, .junk, .junk, .junk, .junk, .junk, .junk, .junk, .junk, .junk, .junk], [⟨true, .sl false 1 (repTo x n m.1)⟩]⟩) (fun m => n - m.1) ⟨min 1 n, by omega⟩ (by simp [sub, slotsLe, clean, keep, refsL, refs, once, place, renL, ren, List.replicate, int, bool, repTo, rep1]) ?_
  rintro ⟨m, hmn, hm0⟩
  have hl := repTo_len (x := x) hmn
  have hsc := repTo_scal (x := x) (n := n) (m := m)
  have hst := repTo_step (x := x) (n := n) (m := m) (k := min m (n - m)) (by omega) (by omega)
  have hsc2 := allS_take (n := m) hsc
  simp only [viewEs, List.drop_zero, List.append_assoc] at hst
  have hwm : IntKind.i64.wrap ((m : Int) + ((min m (n - m) : Nat) : Int)) = ((m + min m (n - m) : Nat) : Int) := by rw [wrapI (by omega) (by omega)]; omega
  simp (config := {contextual := true}) [List.range, List.range.loop, ints, intss, int, bool, row, frac, fracs, ← List.map_take, ← List.map_drop, hl, hsc, hsc2, hmn]
  refine ⟨fun hlt => ⟨⟨m + min m (n - m), by omega⟩, ?_, ?_⟩, fun hle => ?_⟩
  · simp only [hst, hwm]
    simp [sub, slotsLe, clean, keep, refsL, refs, once, place, renL, ren, List.replicate, int, bool]
  · have := hm0 (by omega)
    simp only []
    omega
  · have : m = n := by omega
    subst this
    simp [repTo, int]
end Go.Proofs.YtigepnpiofcooaaGreat.Ax
namespace Go.Proofs.YtigepnpiofcooaaGreat.Ax
open Go Go.RowKit
def next (low high : Int) : List Int → Option (List Int)
  | [] => none
  | x :: l => match next low high l with
    | some l' => some (x :: l')
    | none => if x < high then some ((x + 1) :: List.replicate l.length low) else none
end Go.Proofs.YtigepnpiofcooaaGreat.Ax
namespace Go.Proofs.YtigepnpiofcooaaGreat.Ax
open Go Go.RowKit
set_option linter.unusedSimpArgs false
end Go.Proofs.YtigepnpiofcooaaGreat.Ax
namespace Go.Proofs.YtigepnpiofcooaaGreat.Ax
open Go Go.RowKit
def comb (W : List Int → Int) : Option (List Int) → Option (List Int) → Option (List Int)
  | none, b => b
  | some a, none => some a
  | some a, some b => if W b > W a then some b else some a
def bestS (W : List Int → Int) (sk : List Int → Int → Bool) (low : Int) (m : Nat) : Nat → List Int → Option (List Int)
  | 0, l => some l
  | r + 1, l => (List.range m).foldl (fun o (i : Nat) => if sk l (low + i) = true then o else comb W o (bestS W sk low m r (l ++ [low + i]))) none
def okP (wo : Int) (l : List Int) : Bool := isAwd l && !(decide (0 ≤ wo) && decide (wo < l.length) && decide (0 ≤ l.getD wo.toNat 0))
def skP (wo : Int) (l : List Int) (x : Int) : Bool := decide (0 ≤ x) && (decide (0 ≤ pos l x) || decide ((l.length : Int) = wo))
theorem getD_app {l m : List Int} {i : Nat} (h : i < l.length) : (l ++ m).getD i 0 = l.getD i 0 := by
  rw [List.getD_eq_getElem?_getD, List.getD_eq_getElem?_getD, List.getElem?_append_left h]
theorem awAt_app {l m : List Int} {i : Nat} (h : i < l.length) : awAt (l ++ m) i = awAt l i := by
  unfold awAt
  rw [getD_app h, List.take_append_of_le_length (by omega)]
theorem awAt_last {l : List Int} {x : Int} {m : List Int} : awAt (l ++ x :: m) l.length = !(decide (0 ≤ x) && decide (0 ≤ pos l x)) := by
  unfold awAt
  rw [List.take_append_of_le_length (Nat.le_refl _), List.take_length]
  simp [List.getD_eq_getElem?_getD]
theorem isAwd_app {l : List Int} {x : Int} : isAwd (l ++ [x]) = (isAwd l && !(decide (0 ≤ x) && decide (0 ≤ pos l x))) := by
  unfold isAwd allR
  rw [List.length_append, List.length_singleton, List.range_succ, List.all_append]
  congr 1
  · rw [Bool.eq_iff_iff, List.all_eq_true, List.all_eq_true]
    exact ⟨fun h i hi => by rw [← awAt_app (m := [x]) (by simpa using hi)]; exact h i hi, fun h i hi => by rw [awAt_app (by simpa using hi)]; exact h i hi⟩
  · simp [awAt_last]
theorem okP_keep {wo : Int} {l : List Int} {x : Int} (h : okP wo l = true) (hs : skP wo l x = false) : okP wo (l ++ [x]) = true := by
  simp only [okP, skP, isAwd_app, Bool.and_eq_true, Bool.not_eq_true', Bool.and_eq_false_iff, Bool.or_eq_false_iff, decide_eq_false_iff_not, List.length_append, List.length_singleton] at h hs ⊢
  obtain ⟨h1, h2⟩ := h
  refine ⟨⟨h1, ?_⟩, ?_⟩
  · rcases hs with hs | ⟨hs, _⟩
    · exact .inl hs
    · exact .inr hs
  · by_cases h0 : 0 ≤ wo
    · by_cases hw : wo < l.length
      · rw [getD_app (by omega)]
        rcases h2 with (h2 | h2) | h2
        · exact (h2 h0).elim
        · exact (h2 hw).elim
        · exact .inr h2
      · by_cases he : wo = l.length
        · right
          subst he
          rcases hs with hs | ⟨_, hs⟩
          · simp [List.getD_eq_getElem?_getD]; omega
          · exact (hs rfl).elim
        · left; right; push_cast; omega
    · exact .inl (.inl h0)
end Go.Proofs.YtigepnpiofcooaaGreat.Ax
namespace Go.Proofs.YtigepnpiofcooaaGreat.Ax
open Go Go.RowKit
set_option linter.unusedSimpArgs false
end Go.Proofs.YtigepnpiofcooaaGreat.Ax
namespace Go.Proofs.YtigepnpiofcooaaGreat.Ax
open Go Go.RowKit
set_option linter.unusedSimpArgs false
def wAw (xss : List (Bool × List Int)) (l : List Int) : Int := awTo xss l l.length
end Go.Proofs.YtigepnpiofcooaaGreat.Ax
namespace Go.Proofs.YtigepnpiofcooaaGreat.Ax
open Go Go.RowKit
set_option linter.unusedSimpArgs false
def LB (xss : List (Bool × List Int)) (l : List Int) (wo : Int) (r : Nat) : Prop := rectB xss 4 4 1000 = true ∧ -1 ≤ wo ∧ l.length + r = xss.length ∧ okP wo l = true ∧ ∀ x ∈ l, -1 ≤ x ∧ x ≤ (wid xss : Int) - 1
noncomputable def bs (xss : List (Bool × List Int)) (wo : Int) (r : Nat) (l : List Int) : Option (List Int) := bestS (wAw xss) (skP wo) (-1) (wid xss + 1) r l
theorem LB.step {xss : List (Bool × List Int)} {l : List Int} {wo : Int} {r : Nat} (h : LB xss l wo (r + 1)) {x : Int} (hx : -1 ≤ x ∧ x ≤ (wid xss : Int) - 1) (hs : skP wo l x = false) : LB xss (l ++ [x]) wo r := by
  obtain ⟨h1, h2, h3, h4, h5⟩ := h
  refine ⟨h1, h2, by simp; omega, okP_keep h4 hs, fun y hy => ?_⟩
  rcases List.mem_append.1 hy with hy | hy
  · exact h5 y hy
  · simp at hy; subst hy; exact hx
end Go.Proofs.YtigepnpiofcooaaGreat.Ax
