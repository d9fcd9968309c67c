/-
  Contracts: math/bits.Mul, slices.Repeat of ints. No condition.
-/
import Derived.Test.YtlkgppincgpfjaaCG8
import Derived.Shelf.Bits.Mul64
namespace Go.Proofs.Ytlkgppincgpfjaa.Ax
open Go Go.RowKit
set_option linter.unusedSimpArgs false

noncomputable def mMul64 : List AV → Option AV := mk (fun p => p.1 < 18446744073709551616 ∧ p.2 < 18446744073709551616) (fun (p : Nat × Nat) => [.v (.int .u64 (p.1 : Int)), .v (.int .u64 (p.2 : Int))])
  (fun p => .tup [.v (.int .u64 ((p.1 * p.2 / 18446744073709551616 : Nat) : Int)), .v (.int .u64 ((p.1 * p.2 % 18446744073709551616 : Nat) : Int))])
theorem mMul64_at (x y : Nat) (h : x < 18446744073709551616 ∧ y < 18446744073709551616) : mMul64 [.v (.int .u64 (x : Int)), .v (.int .u64 (y : Int))] = some (.tup [.v (.int .u64 ((x * y / 18446744073709551616 : Nat) : Int)), .v (.int .u64 ((x * y % 18446744073709551616 : Nat) : Int))]) :=
  mk_eq (enc := fun (p : Nat × Nat) => [.v (.int .u64 (p.1 : Int)), .v (.int .u64 (p.2 : Int))]) (x := (x, y)) (by rintro ⟨a, b⟩ ⟨c, d⟩ h; simp at h; simp [h]) h

noncomputable def mMul : List AV → Option AV := mMul64
theorem mMul_at (x y : Nat) (h : x < 18446744073709551616 ∧ y < 18446744073709551616) : mMul [.v (.int .u64 (x : Int)), .v (.int .u64 (y : Int))] = some (.tup [.v (.int .u64 ((x * y / 18446744073709551616 : Nat) : Int)), .v (.int .u64 ((x * y % 18446744073709551616 : Nat) : Int))]) := mMul64_at x y h

/-- x so far, zeros behind. -/
def repTo (x : Int) (n m : Nat) : List AV := List.replicate m (int x) ++ List.replicate (n - m) (int 0)
theorem repTo_len {x : Int} {n m : Nat} (h : m ≤ n) : (repTo x n m).length = n := by simp [repTo]; omega
theorem repTo_scal {x : Int} {n m : Nat} : allS (repTo x n m) = true := by
  rw [allS, List.all_eq_true]
  intro e he
  simp only [repTo, List.mem_append, List.mem_replicate] at he
  rcases he with ⟨_, rfl⟩ | ⟨_, rfl⟩ <;> rfl
theorem repTo_step {x : Int} {n m k : Nat} (_h : m + k ≤ n) (hk : k ≤ m) : (repTo x n m).take m ++ (viewEs (repTo x n m) 0 m).take k ++ (repTo x n m).drop (m + k) = repTo x n (m + k) := by
  have e1 : (repTo x n m).take m = List.replicate m (int x) := by simp [repTo]
  have e2 : viewEs (repTo x n m) 0 m = List.replicate m (int x) := by simp [viewEs, e1]
  have e3 : (repTo x n m).drop (m + k) = List.replicate (n - (m + k)) (int 0) := by
    simp [repTo, List.drop_append]; omega
  rw [e1, e2, e3, List.take_replicate, Nat.min_eq_left hk]
  simp [repTo, List.replicate_append_replicate]

theorem rep1 {a : AV} {n : Nat} : List.replicate (min 1 n) a = List.take (min 1 n) [a] := by
  rcases Nat.eq_zero_or_pos n with rfl | h
  · simp
  · rw [Nat.min_eq_left h]; simp

noncomputable def mRepeatI : List AV → Option AV := mk (fun p => p.2.2 ≤ 1000) (fun (p : Bool × Int × Nat) => [ints p.1 [p.2.1], int (p.2.2 : Int)]) (fun p => ints false (List.replicate p.2.2 p.2.1))
theorem mRepeatI_at (nl : Bool) (x : Int) (n : Nat) (h : n ≤ 1000) : mRepeatI [.sl nl 1 [.v (.int .i64 x)], .v (.int .i64 (n : Int))] = some (.sl false 1 ((List.replicate n x).map int)) :=
  mk_eq (enc := fun (p : Bool × Int × Nat) => [ints p.1 [p.2.1], int (p.2.2 : Int)]) (x := (nl, x, n)) (by rintro ⟨a, b, c⟩ ⟨d, e, f⟩ h; simp [ints, int] at h; obtain ⟨⟨rfl, rfl⟩, h⟩ := h; exact (by omega : c = f) ▸ rfl) h

end Go.Proofs.Ytlkgppincgpfjaa.Ax
