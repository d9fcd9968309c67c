/-
  Contracts of the laws' functions on whole profiles: size, copy, equality. No condition.
-/
import Derived.Test.YtkfmhpgnhkdebaaGreatDoorCG4
import Derived.Test.YtkfmhpgnhkdebaaGreatDoorCG1
import Derived.Shelf.Bits.Mul64
import Derived.Test.YtkfmhpgnhkdebaaGreatDoorCB2
import Derived.Test.YtkfmhpgnhkdebaaGreatDoorCK4
import Derived.Test.YtkfmhpgnhkdebaaGreatDoorCG2
namespace Go.Proofs.YtkfmhpgnhkdebaaGreatDoor.Ax
open Go Go.RowKit
set_option linter.unusedSimpArgs false
end Go.Proofs.YtkfmhpgnhkdebaaGreatDoor.Ax
namespace Go.Proofs.YtkfmhpgnhkdebaaGreatDoor.Ax
open Go Go.RowKit
set_option linter.unusedSimpArgs false
def renMul : Go.Shelf.Ren := ⟨fun _ => 265, fun x => if x = 46 then 167 else 208, fun x => x⟩
theorem lay_mul : Go.Proofs.Lays.n264 Tryz.prog renMul := {
  mixed := by kernel_rfl
  f264 := Tryz.func265.trans (congrArg some (by kernel_rfl))
  t46 := by kernel_rfl
  a46 := fun _ => run_isAgg (tyOf_ok ty167)
  z46 := fun _ => run_size (tyOf_ok ty167)
  v46 := fun _ => run_zero (tyOf_ok ty167)
  t53 := by kernel_rfl
  a53 := fun _ => run_isAgg (tyOf_ok ty208)
  z53 := fun _ => run_size (tyOf_ok ty208)
  v53 := fun _ => run_zero (tyOf_ok ty208) }
noncomputable def mMul64 : List AV → Option AV := mk (fun p => p.1 < 18446744073709551616 ∧ p.2 < 18446744073709551616) (fun (p : Nat × Nat) => [.v (.int .u64 (p.1 : Int)), .v (.int .u64 (p.2 : Int))])
  (fun p => .tup [.v (.int .u64 ((p.1 * p.2 / 18446744073709551616 : Nat) : Int)), .v (.int .u64 ((p.1 * p.2 % 18446744073709551616 : Nat) : Int))])
theorem mMul64_at (x y : Nat) (h : x < 18446744073709551616 ∧ y < 18446744073709551616) : mMul64 [.v (.int .u64 (x : Int)), .v (.int .u64 (y : Int))] = some (.tup [.v (.int .u64 ((x * y / 18446744073709551616 : Nat) : Int)), .v (.int .u64 ((x * y % 18446744073709551616 : Nat) : Int))]) :=
  mk_eq (enc := fun (p : Nat × Nat) => [.v (.int .u64 (p.1 : Int)), .v (.int .u64 (p.2 : Int))]) (x := (x, y)) (by rintro ⟨a, b⟩ ⟨c, d⟩ h; simp at h; simp [h]) h
theorem mul64_ok : FnOk Tryz.prog 265 mMul64 := by
  refine mk_ok fun ⟨x, y⟩ ⟨hx, hy⟩ => ?_
  refine ⟨⟨_, Tryz.func265, by kernel_rfl, by kernel_rfl⟩, fun w F vals hF hv => ?_⟩
  simp only [RepL, Rep] at hv
  obtain ⟨a, r1, e1, ⟨rfl, _⟩, b, r2, rfl, ⟨rfl, _⟩, rfl⟩ := hv
  have hvals : vals = #[.int .u64 (x : Int), .int .u64 (y : Int)] := by apply Array.ext'; rw [e1]
  subst hvals
  refine (Go.Proofs.Any.bits_Mul64 lay_mul x y hx hy w).mono fun e w' h => ?_
  obtain ⟨rfl, rfl⟩ := h
  refine ⟨_, fun _ => False, rfl, Frm.refl _ _, fun _ h => h.elim, ?_⟩
  simp only [Own, OwnL]
  exact ⟨_, rfl, _, _, fun _ => False, fun _ => False, rfl, fun _ h => h.elim, fun _ h => h.elim, fun _ h => h.elim, ⟨rfl, rfl⟩, _, _, fun _ => False, fun _ => False, rfl, fun _ h => h.elim, fun _ h => h.elim, fun _ h => h.elim, ⟨rfl, rfl⟩, rfl⟩
noncomputable def mMul : List AV → Option AV := mMul64
theorem mMul_at (x y : Nat) (h : x < 18446744073709551616 ∧ y < 18446744073709551616) : mMul [.v (.int .u64 (x : Int)), .v (.int .u64 (y : Int))] = some (.tup [.v (.int .u64 ((x * y / 18446744073709551616 : Nat) : Int)), .v (.int .u64 ((x * y % 18446744073709551616 : Nat) : Int))]) := mMul64_at x y h
theorem mul_ok : FnOk Tryz.prog 230 mMul := by
  unfold mMul mMul64
  refine mk_ok fun ⟨x, y⟩ h => ?_
  simp only at h
  have hG : FnsOk Tryz.prog [(265, mMul64)] := (.cons mul64_ok .nil)
  refine callOk_awp (ctx_ok eqOk hG) mixed (live := [true, true, false, false, true, true, true, true, true, true]) (dt := []) Tryz.func230 rfl (by kernel_rfl) (by kernel_rfl) fun w0 hlens => ?_
  clear hlens
  simp (config := {contextual := true}) [Tryz.f230, List.range, List.range.loop, ints, intss, int, bool, row, frac, fracs, ← List.map_take, ← List.map_drop, mMul64_at, h]
theorem rep1 {a : AV} {n : Nat} : List.replicate (min 1 n) a = List.take (min 1 n) [a] := by
  rcases Nat.eq_zero_or_pos n with rfl | h
  · simp
  · rw [Nat.min_eq_left h]; simp
end Go.Proofs.YtkfmhpgnhkdebaaGreatDoor.Ax
namespace Go.Proofs.YtkfmhpgnhkdebaaGreatDoor.Ax
open Go Go.RowKit
def next (low high : Int) : List Int → Option (List Int)
  | [] => none
  | x :: l => match next low high l with
    | some l' => some (x :: l')
    | none => if x < high then some ((x + 1) :: List.replicate l.length low) else none
end Go.Proofs.YtkfmhpgnhkdebaaGreatDoor.Ax
namespace Go.Proofs.YtkfmhpgnhkdebaaGreatDoor.Ax
open Go Go.RowKit
set_option linter.unusedSimpArgs false
end Go.Proofs.YtkfmhpgnhkdebaaGreatDoor.Ax
namespace Go.Proofs.YtkfmhpgnhkdebaaGreatDoor.Ax
open Go Go.RowKit
def comb (W : List Int → Int) : Option (List Int) → Option (List Int) → Option (List Int)
  | none, b => b
  | some a, none => some a
  | some a, some b => if W b > W a then some b else some a
def bestS (W : List Int → Int) (sk : List Int → Int → Bool) (low : Int) (m : Nat) : Nat → List Int → Option (List Int)
  | 0, l => some l
  | r + 1, l => (List.range m).foldl (fun o (i : Nat) => if sk l (low + i) = true then o else comb W o (bestS W sk low m r (l ++ [low + i]))) none
def okP (wo : Int) (l : List Int) : Bool := isAwd l && !(decide (0 ≤ wo) && decide (wo < l.length) && decide (0 ≤ l.getD wo.toNat 0))
def skP (wo : Int) (l : List Int) (x : Int) : Bool := decide (0 ≤ x) && (decide (0 ≤ pos l x) || decide ((l.length : Int) = wo))
theorem getD_app {l m : List Int} {i : Nat} (h : i < l.length) : (l ++ m).getD i 0 = l.getD i 0 := by
  rw [List.getD_eq_getElem?_getD, List.getD_eq_getElem?_getD, List.getElem?_append_left h]
theorem awAt_app {l m : List Int} {i : Nat} (h : i < l.length) : awAt (l ++ m) i = awAt l i := by
  unfold awAt
  rw [getD_app h, List.take_append_of_le_length (by omega)]
theorem awAt_last {l : List Int} {x : Int} {m : List Int} : awAt (l ++ x :: m) l.length = !(decide (0 ≤ x) && decide (0 ≤ pos l x)) := by
  unfold awAt
  rw [List.take_append_of_le_length (Nat.le_refl _), List.take_length]
  simp [List.getD_eq_getElem?_getD]
theorem isAwd_app {l : List Int} {x : Int} : isAwd (l ++ [x]) = (isAwd l && !(decide (0 ≤ x) && decide (0 ≤ pos l x))) := by
  unfold isAwd allR
  rw [List.length_append, List.length_singleton, List.range_succ, List.all_append]
  congr 1
  · rw [Bool.eq_iff_iff, List.all_eq_true, List.all_eq_true]
    exact ⟨fun h i hi => by rw [← awAt_app (m := [x]) (by simpa using hi)]; exact h i hi, fun h i hi => by rw [awAt_app (by simpa using hi)]; exact h i hi⟩
  · simp [awAt_last]
theorem okP_keep {wo : Int} {l : List Int} {x : Int} (h : okP wo l = true) (hs : skP wo l x = false) : okP wo (l ++ [x]) = true := by
  simp only [okP, skP, isAwd_app, Bool.and_eq_true, Bool.not_eq_true', Bool.and_eq_false_iff, Bool.or_eq_false_iff, decide_eq_false_iff_not, List.length_append, List.length_singleton] at h hs ⊢
  obtain ⟨h1, h2⟩ := h
  refine ⟨⟨h1, ?_⟩, ?_⟩
  · rcases hs with hs | ⟨hs, _⟩
    · exact .inl hs
    · exact .inr hs
  · by_cases h0 : 0 ≤ wo
    · by_cases hw : wo < l.length
      · rw [getD_app (by omega)]
        rcases h2 with (h2 | h2) | h2
        · exact (h2 h0).elim
        · exact (h2 hw).elim
        · exact .inr h2
      · by_cases he : wo = l.length
        · right
          subst he
          rcases hs with hs | ⟨_, hs⟩
          · simp [List.getD_eq_getElem?_getD]; omega
          · exact (hs rfl).elim
        · left; right; push_cast; omega
    · exact .inl (.inl h0)
end Go.Proofs.YtkfmhpgnhkdebaaGreatDoor.Ax
namespace Go.Proofs.YtkfmhpgnhkdebaaGreatDoor.Ax
open Go Go.RowKit
set_option linter.unusedSimpArgs false
end Go.Proofs.YtkfmhpgnhkdebaaGreatDoor.Ax
namespace Go.Proofs.YtkfmhpgnhkdebaaGreatDoor.Ax
open Go Go.RowKit
set_option linter.unusedSimpArgs false
def wAw (xss : List (Bool × List Int)) (l : List Int) : Int := awTo xss l l.length
end Go.Proofs.YtkfmhpgnhkdebaaGreatDoor.Ax
namespace Go.Proofs.YtkfmhpgnhkdebaaGreatDoor.Ax
open Go Go.RowKit
set_option linter.unusedSimpArgs false
def LB (xss : List (Bool × List Int)) (l : List Int) (wo : Int) (r : Nat) : Prop := rectB xss 4 4 1000 = true ∧ -1 ≤ wo ∧ l.length + r = xss.length ∧ okP wo l = true ∧ ∀ x ∈ l, -1 ≤ x ∧ x ≤ (wid xss : Int) - 1
noncomputable def bs (xss : List (Bool × List Int)) (wo : Int) (r : Nat) (l : List Int) : Option (List Int) := bestS (wAw xss) (skP wo) (-1) (wid xss + 1) r l
theorem LB.step {xss : List (Bool × List Int)} {l : List Int} {wo : Int} {r : Nat} (h : LB xss l wo (r + 1)) {x : Int} (hx : -1 ≤ x ∧ x ≤ (wid xss : Int) - 1) (hs : skP wo l x = false) : LB xss (l ++ [x]) wo r := by
  obtain ⟨h1, h2, h3, h4, h5⟩ := h
  refine ⟨h1, h2, by simp; omega, okP_keep h4 hs, fun y hy => ?_⟩
  rcases List.mem_append.1 hy with hy | hy
  · exact h5 y hy
  · simp at hy; subst hy; exact hx
end Go.Proofs.YtkfmhpgnhkdebaaGreatDoor.Ax
