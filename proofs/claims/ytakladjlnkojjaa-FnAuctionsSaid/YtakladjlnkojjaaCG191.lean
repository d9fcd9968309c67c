/-
  Contracts: a number below a bound by a cursor; rows of such numbers (the reference's draws). No condition.
-/
import Derived.Test.YtakladjlnkojjaaCG190
namespace Go.Proofs.Ytakladjlnkojjaa.Ax
open Go Go.RowKit
set_option linter.unusedSimpArgs false

/-- The number below n that the next byte gives. -/
def bw (by' : List Int) (s : Int × Int) (n : Nat) : Int := (crX by' s).tmod (n : Int)
theorem bw_bd {by' : List Int} {s : Int × Int} {n : Nat} (h : 0 < n) : 0 ≤ bw by' s n ∧ bw by' s n < n := by
  have := crX_bd (by' := by') (s := s)
  unfold bw
  rw [Int.tmod_eq_emod_of_nonneg this.1]
  exact ⟨Int.emod_nonneg _ (by omega), Int.emod_lt_of_pos _ (by omega)⟩

theorem l01Below_cur {nl : Bool} {by' : List Int} {s : Int × Int} (hs : CrOk by' s) {n : Nat} (h0 : 0 < n) (hn : n ≤ 256) : CurOk Try.prog 81 (byts nl by') 87 [int n] s (crS by' s) (.v (.int .i64 (bw by' s n))) := by
  have hcur := l01Byte_cur (nl := nl) hs
  have hx := crX_bd (by' := by') (s := s)
  have hG : FnsOk Try.prog [] := .nil
  refine curOk_of_ty (dt := []) (ctx_ok eqOk hG) Try.func81 rfl (by kernel_rfl) (by kernel_rfl) fun w F0 code b hbytes hF0 hbF => ?_
  refine ty_seq (ty_awp (ctx_ok eqOk hG) mixed curJ_stable (live := [true, true, false, false, true, true, true, true, true, false, true, false, true]) fun X A w1 => ?_)
  simp [Try.f81, List.range, List.range.loop, ints, intss, int, bool, row, frac, fracs, ← List.map_take, ← List.map_drop, thenY_normal]
  refine ty_seq (ty_awp (ctx_ok eqOk hG) mixed curJ_stable (live := [true, true, false, false, true, true, true, true, true, false, true, false, true]) fun X A w1 => ?_)
  have hn0 : ¬ (n : Int) ≤ 0 := by omega
  have hn1 : ¬ n = 0 := by omega
  simp [List.range, List.range.loop, ints, intss, int, bool, row, frac, fracs, ← List.map_take, ← List.map_drop, thenY_normal, hn0, hn1]
  refine ty_seq (ty_seq (ty_awp (ctx_ok eqOk hG) mixed curJ_stable (live := [true, true, false, false, true, true, true, true, true, false, true, false, true]) fun X A w1 => ?_))
  have hn2 : (n : Int) ≤ 256 := by omega
  simp [List.range, List.range.loop, ints, intss, int, bool, row, frac, fracs, ← List.map_take, ← List.map_drop, thenY_normal, hn, hn2]
  refine ty_cond (t := true) (by rfl) (fun _ => ?_) (fun h => by cases h)
  refine ty_seq (ty_reg (tyo_ops 1 (ctx_ok eqOk hG) curJ_stable (by simp) ?_))
  simp [List.range, List.range.loop, ints, intss, int, bool, row, frac, fracs, ← List.map_take, ← List.map_drop]
  refine tyo_cur hbytes hF0 hbF hcur rfl rfl rfl (by rfl) (by rfl) (by rfl) ?_
  simp [List.range, List.range.loop, ints, intss, int, bool, row, frac, fracs, ← List.map_take, ← List.map_drop]
  refine tyo_ops 3 (ctx_ok eqOk hG) curJ_stable (by simp) ?_
  simp [List.range, List.range.loop, ints, intss, int, bool, row, frac, fracs, ← List.map_take, ← List.map_drop, hn1]
  refine tyo_end (by simp) ?_
  simp only [thenY_normal]
  refine ty_awp (ctx_ok eqOk hG) mixed curJ_stable (live := [true, true, false, false, true, true, true, true, true, false, true, false, true]) fun X A w1 => ?_
  simp [List.range, List.range.loop, ints, intss, int, bool, row, frac, fracs, ← List.map_take, ← List.map_drop, thenY_ret, bw]

/-- The cursor behind k bytes. -/
def crN (by' : List Int) (s : Int × Int) : Nat → Int × Int
  | 0 => s
  | k + 1 => crS by' (crN by' s k)
theorem crN_ok {by' : List Int} {s : Int × Int} (h : CrOk by' s) : ∀ k, CrOk by' (crN by' s k)
  | 0 => h
  | k + 1 => (crN_ok h k).next
/-- The number below m that byte k gives. -/
def bk (by' : List Int) (s : Int × Int) (m k : Nat) : Int := bw by' (crN by' s k) m
theorem bk_bd {by' : List Int} {s : Int × Int} {m k : Nat} (h : 0 < m) : 0 ≤ bk by' s m k ∧ bk by' s m k < m := bw_bd h
/-- A row of g such numbers, from byte k on. -/
def drR (by' : List Int) (s : Int × Int) (m k g : Nat) : List Int := (List.range g).map fun j => bk by' s m (k + j)
theorem drR_succ {by' : List Int} {s : Int × Int} {m k g : Nat} : drR by' s m k (g + 1) = drR by' s m k g ++ [bk by' s m (k + g)] := by unfold drR; rw [List.range_succ, List.map_append]; rfl
theorem drR_len {by' : List Int} {s : Int × Int} {m k g : Nat} : (drR by' s m k g).length = g := by simp [drR]
/-- n rows. -/
def drT (by' : List Int) (s : Int × Int) (m g n : Nat) : List (Bool × List Int) := (List.range n).map fun i => (false, drR by' s m (2 + i * g) g)
theorem drT_succ {by' : List Int} {s : Int × Int} {m g n : Nat} : drT by' s m g (n + 1) = drT by' s m g n ++ [(false, drR by' s m (2 + n * g) g)] := by unfold drT; rw [List.range_succ, List.map_append]; rfl
theorem drT_len {by' : List Int} {s : Int × Int} {m g n : Nat} : (drT by' s m g n).length = n := by simp [drT]
/-- How many rows, how wide. -/
def drN (by' : List Int) (s : Int × Int) (a : Nat) : Nat := (1 + bk by' s a 0).toNat
def drG (by' : List Int) (s : Int × Int) (b : Nat) : Nat := (1 + bk by' s b 1).toNat
theorem drN_bd {by' : List Int} {s : Int × Int} {a : Nat} (h : 0 < a) : 1 ≤ drN by' s a ∧ drN by' s a ≤ a ∧ 1 + bk by' s a 0 = (drN by' s a : Int) := by
  have := bk_bd (by' := by') (s := s) (k := 0) h
  unfold drN; omega
theorem drG_bd {by' : List Int} {s : Int × Int} {b : Nat} (h : 0 < b) : 1 ≤ drG by' s b ∧ drG by' s b ≤ b ∧ 1 + bk by' s b 1 = (drG by' s b : Int) := by
  have := bk_bd (by' := by') (s := s) (k := 1) h
  unfold drG; omega
def drA (by' : List Int) (s : Int × Int) (a b m : Nat) : List (Bool × List Int) := drT by' s m (drG by' s b) (drN by' s a)

end Go.Proofs.Ytakladjlnkojjaa.Ax
