/-
  Contracts: math/bits.Mul, slices.Repeat of ints. No condition.
-/
import Derived.Test.YtakladjlnkojjaaDoorCG8
import Derived.Shelf.Bits.Mul64
namespace Go.Proofs.YtakladjlnkojjaaDoor.Ax
open Go Go.RowKit
set_option linter.unusedSimpArgs false

/-- The numbers of the library's function and types in this program. -/
def renMul : Go.Shelf.Ren := ⟨fun _ => 120, fun x => if x = 46 then 91 else 114, fun x => x⟩
theorem lay_mul : Go.Proofs.Lays.n264 Tryd.prog renMul := {
  mixed := by kernel_rfl
  f264 := by kernel_rfl
  t46 := by kernel_rfl
  a46 := fun _ => run_isAgg (tyOf_ok ty91)
  z46 := fun _ => run_size (tyOf_ok ty91)
  v46 := fun _ => run_zero (tyOf_ok ty91)
  t53 := by kernel_rfl
  a53 := fun _ => run_isAgg (tyOf_ok ty114)
  z53 := fun _ => run_size (tyOf_ok ty114)
  v53 := fun _ => run_zero (tyOf_ok ty114) }

noncomputable def mMul64 : List AV → Option AV := mk (fun p => p.1 < 18446744073709551616 ∧ p.2 < 18446744073709551616) (fun (p : Nat × Nat) => [.v (.int .u64 (p.1 : Int)), .v (.int .u64 (p.2 : Int))])
  (fun p => .tup [.v (.int .u64 ((p.1 * p.2 / 18446744073709551616 : Nat) : Int)), .v (.int .u64 ((p.1 * p.2 % 18446744073709551616 : Nat) : Int))])
theorem mMul64_at (x y : Nat) (h : x < 18446744073709551616 ∧ y < 18446744073709551616) : mMul64 [.v (.int .u64 (x : Int)), .v (.int .u64 (y : Int))] = some (.tup [.v (.int .u64 ((x * y / 18446744073709551616 : Nat) : Int)), .v (.int .u64 ((x * y % 18446744073709551616 : Nat) : Int))]) :=
  mk_eq (enc := fun (p : Nat × Nat) => [.v (.int .u64 (p.1 : Int)), .v (.int .u64 (p.2 : Int))]) (x := (x, y)) (by rintro ⟨a, b⟩ ⟨c, d⟩ h; simp at h; simp [h]) h

theorem mul64_ok : FnOk Tryd.prog 120 mMul64 := by
  refine mk_ok fun ⟨x, y⟩ ⟨hx, hy⟩ => ?_
  refine ⟨⟨_, Tryd.func120, by kernel_rfl, by kernel_rfl⟩, fun w F vals hF hv => ?_⟩
  simp only [RepL, Rep] at hv
  obtain ⟨a, r1, e1, ⟨rfl, _⟩, b, r2, rfl, ⟨rfl, _⟩, rfl⟩ := hv
  have hvals : vals = #[.int .u64 (x : Int), .int .u64 (y : Int)] := by apply Array.ext'; rw [e1]
  subst hvals
  refine (Go.Proofs.Any.bits_Mul64 lay_mul x y hx hy w).mono fun e w' h => ?_
  obtain ⟨rfl, rfl⟩ := h
  refine ⟨_, fun _ => False, rfl, Frm.refl _ _, fun _ h => h.elim, ?_⟩
  simp only [Own, OwnL]
  exact ⟨_, rfl, _, _, fun _ => False, fun _ => False, rfl, fun _ h => h.elim, fun _ h => h.elim, fun _ h => h.elim, ⟨rfl, rfl⟩, _, _, fun _ => False, fun _ => False, rfl, fun _ h => h.elim, fun _ h => h.elim, fun _ h => h.elim, ⟨rfl, rfl⟩, rfl⟩

noncomputable def mMul : List AV → Option AV := mMul64
theorem mMul_at (x y : Nat) (h : x < 18446744073709551616 ∧ y < 18446744073709551616) : mMul [.v (.int .u64 (x : Int)), .v (.int .u64 (y : Int))] = some (.tup [.v (.int .u64 ((x * y / 18446744073709551616 : Nat) : Int)), .v (.int .u64 ((x * y % 18446744073709551616 : Nat) : Int))]) := mMul64_at x y h

theorem mul_ok : FnOk Tryd.prog 95 mMul := by
  unfold mMul mMul64
  refine mk_ok fun ⟨x, y⟩ h => ?_
  simp only at h
  have hG : FnsOk Tryd.prog [(120, mMul64)] := (.cons mul64_ok .nil)
  refine callOk_awp (ctx_ok eqOk hG) mixed (live := [true, true, false, false, true, true, true, true, true, true]) (dt := []) Tryd.func95 rfl (by kernel_rfl) (by kernel_rfl) fun w0 hlens => ?_
  clear hlens
  simp (config := {contextual := true}) [Tryd.f95, List.range, List.range.loop, ints, intss, int, bool, row, frac, fracs, ← List.map_take, ← List.map_drop, mMul64_at, h]

/-- x so far, zeros behind. -/
def repTo (x : Int) (n m : Nat) : List AV := List.replicate m (int x) ++ List.replicate (n - m) (int 0)
theorem repTo_len {x : Int} {n m : Nat} (h : m ≤ n) : (repTo x n m).length = n := by simp [repTo]; omega
theorem repTo_scal {x : Int} {n m : Nat} : allS (repTo x n m) = true := by
  rw [allS, List.all_eq_true]
  intro e he
  simp only [repTo, List.mem_append, List.mem_replicate] at he
  rcases he with ⟨_, rfl⟩ | ⟨_, rfl⟩ <;> rfl
theorem repTo_step {x : Int} {n m k : Nat} (_h : m + k ≤ n) (hk : k ≤ m) : (repTo x n m).take m ++ (viewEs (repTo x n m) 0 m).take k ++ (repTo x n m).drop (m + k) = repTo x n (m + k) := by
  have e1 : (repTo x n m).take m = List.replicate m (int x) := by simp [repTo]
  have e2 : viewEs (repTo x n m) 0 m = List.replicate m (int x) := by simp [viewEs, e1]
  have e3 : (repTo x n m).drop (m + k) = List.replicate (n - (m + k)) (int 0) := by
    simp [repTo, List.drop_append]; omega
  rw [e1, e2, e3, List.take_replicate, Nat.min_eq_left hk]
  simp [repTo, List.replicate_append_replicate]

theorem rep1 {a : AV} {n : Nat} : List.replicate (min 1 n) a = List.take (min 1 n) [a] := by
  rcases Nat.eq_zero_or_pos n with rfl | h
  · simp
  · rw [Nat.min_eq_left h]; simp

noncomputable def mRepeatI : List AV → Option AV := mk (fun p => p.2.2 ≤ 1000) (fun (p : Bool × Int × Nat) => [ints p.1 [p.2.1], int (p.2.2 : Int)]) (fun p => ints false (List.replicate p.2.2 p.2.1))
theorem mRepeatI_at (nl : Bool) (x : Int) (n : Nat) (h : n ≤ 1000) : mRepeatI [.sl nl 1 [.v (.int .i64 x)], .v (.int .i64 (n : Int))] = some (.sl false 1 ((List.replicate n x).map int)) :=
  mk_eq (enc := fun (p : Bool × Int × Nat) => [ints p.1 [p.2.1], int (p.2.2 : Int)]) (x := (nl, x, n)) (by rintro ⟨a, b, c⟩ ⟨d, e, f⟩ h; simp [ints, int] at h; obtain ⟨⟨rfl, rfl⟩, h⟩ := h; exact (by omega : c = f) ▸ rfl) h

theorem repeatI_ok : FnOk Tryd.prog 62 mRepeatI := by
  refine mk_ok fun ⟨nl, x, n⟩ hn => ?_
  simp only at hn
  have hG : FnsOk Tryd.prog [(95, mMul)] := (.cons mul_ok .nil)
  refine callOk_awp (ctx_ok eqOk hG) mixed (live := [true, true, false, false, true, true, true, true, true, false, true, false, false, false, false, false, false, false, false, false, false, false, false, false, false, false, true, false, false, false, false, false, false, false, false, false, false, true]) (dt := [(9, ⟨[], [], []⟩)]) Tryd.func62 rfl (by kernel_rfl) (by kernel_rfl) fun w0 hlens => ?_
  clear hlens
  have hw1 : IntKind.u64.wrap (n : Int) = (n : Int) := by rw [IntKind.wrap_u64]; omega
  have hw0 : IntKind.u64.wrap 1 = 1 := by decide
  have hn0 : ¬ ((n : Int) < 0) := by omega
  have hn1 : ¬ ((9223372036854775807 : Int) < (n : Int)) := by omega
  have hb : 8 * n ≤ 281474976710656 := by omega
  have hb2 : n ≤ 4611686018427387904 := by omega
  have hw2 : IntKind.i64.wrap (n : Int) = (n : Int) := wrapI (by omega) (by omega)
  have hd : (1 * n / 18446744073709551616) = 0 := by omega
  have he : (1 * n % 18446744073709551616) = n := by omega
  have hm : mMul [.v (.int .u64 1), .v (.int .u64 (n : Int))] = some (.tup [.v (.int .u64 0), .v (.int .u64 (n : Int))]) := by
    have := mMul_at 1 n (by omega)
    rw [hd, he] at this; exact this
  simp (config := {contextual := true}) [Tryd.f62, List.range, List.range.loop, ints, intss, int, bool, row, frac, fracs, ← List.map_take, ← List.map_drop, hw0, hw1, hw2, hn0, hn1, hb, hb2, hm, hn]
  refine awp_loop_of (live := [true, true, false, false, true, true, true, true, true, false, true, false, false, false, false, false, false, false, false, false, false, false, false, false, false, false, true, false, false, false, false, false, false, false, false, false, false, true]) (ctx_ok eqOk hG) mixed [false, false, false, false, false, false, false, true, true] (α := {m : Nat // m ≤ n ∧ (0 < n → 0 < m)}) (fun m => ⟨[.junk, .junk, .junk, .junk, .junk, .junk, .junk, .ref 0 [] 0 n, int (m.1 : Int), .junk, .junk, .junk, .junk, .junk, .junk, .junk, .junk, .junk, .junk, .junk, .junk, .junk, .junk, .junk, .junk, .junk, .junk, .junk, .junk, .junk, .junk, .junk, .junk, .junk, .junk, .junk, .junk, .junk, .junk, .junk, .junk, .junk, .junk, .junk, .junk, .junk, .junk, .junk], [⟨true, .sl false 1 (repTo x n m.1)⟩]⟩) (fun m => n - m.1) ⟨min 1 n, by omega⟩ (by simp [sub, slotsLe, clean, keep, refsL, refs, once, place, renL, ren, List.replicate, int, bool, repTo, rep1]) ?_
  rintro ⟨m, hmn, hm0⟩
  have hl := repTo_len (x := x) hmn
  have hsc := repTo_scal (x := x) (n := n) (m := m)
  have hst := repTo_step (x := x) (n := n) (m := m) (k := min m (n - m)) (by omega) (by omega)
  have hsc2 := allS_take (n := m) hsc
  simp only [viewEs, List.drop_zero, List.append_assoc] at hst
  have hwm : IntKind.i64.wrap ((m : Int) + ((min m (n - m) : Nat) : Int)) = ((m + min m (n - m) : Nat) : Int) := by rw [wrapI (by omega) (by omega)]; omega
  simp (config := {contextual := true}) [List.range, List.range.loop, ints, intss, int, bool, row, frac, fracs, ← List.map_take, ← List.map_drop, hl, hsc, hsc2, hmn]
  refine ⟨fun hlt => ⟨⟨m + min m (n - m), by omega⟩, ?_, ?_⟩, fun hle => ?_⟩
  · simp only [hst, hwm]
    simp [sub, slotsLe, clean, keep, refsL, refs, once, place, renL, ren, List.replicate, int, bool]
  · have := hm0 (by omega)
    simp only []
    omega
  · have : m = n := by omega
    subst this
    simp [repTo, int]

end Go.Proofs.YtakladjlnkojjaaDoor.Ax
