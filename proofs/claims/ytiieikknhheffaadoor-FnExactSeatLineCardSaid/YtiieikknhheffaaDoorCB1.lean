/-
  What this seat's program says of the types that the proofs meet. No condition.
-/
import Derived.Test.YtiieikknhheffaaDoorCK4
import Derived.Test.YtiieikknhheffaaDoorProg
import Derived.Test.YtiieikknhheffaaDoorRows
namespace Go.Proofs.YtiieikknhheffaaDoor.Ax
open Go Go.RowKit

theorem ty2 : tyOf Tryd.prog 2 = some ({ desc := TypeDesc.int IntKind.i64, size := 1, bytes := 8, zero := Value.int IntKind.i64 0 } : TI) := by kernel_rfl
theorem ty3 : tyOf Tryd.prog 3 = some ({ desc := TypeDesc.int IntKind.i64, size := 1, bytes := 8, zero := Value.int IntKind.i64 0 } : TI) := by kernel_rfl
theorem ty4 : tyOf Tryd.prog 4 = some ({ desc := TypeDesc.bool, size := 1, bytes := 1, zero := Value.bool false } : TI) := by kernel_rfl
theorem ty5 : tyOf Tryd.prog 5 = some ({ desc := TypeDesc.int IntKind.u8, size := 1, bytes := 1, zero := Value.int IntKind.u8 0 } : TI) := by kernel_rfl
theorem ty9 : tyOf Tryd.prog 9 = some ({ desc := TypeDesc.string, size := 1, bytes := 16, zero := Value.string ⟨#[]⟩ } : TI) := by kernel_rfl
theorem ty12 : tyOf Tryd.prog 12 = some ({ desc := TypeDesc.int IntKind.u64, size := 1, bytes := 8, zero := Value.int IntKind.u64 0 } : TI) := by kernel_rfl
theorem ty21 : tyOf Tryd.prog 21 = some ({ desc := TypeDesc.int IntKind.i32, size := 1, bytes := 4, zero := Value.int IntKind.i32 0 } : TI) := by kernel_rfl
theorem ty22 : tyOf Tryd.prog 22 = some ({ desc := TypeDesc.slice 3, size := 1, bytes := 24, zero := Value.slice none 0 0 } : TI) := by kernel_rfl
theorem ty30 : tyOf Tryd.prog 30 = some ({ desc := TypeDesc.slice 9, size := 1, bytes := 24, zero := Value.slice none 0 0 } : TI) := by kernel_rfl
theorem ty37 : tyOf Tryd.prog 37 = some ({ desc := TypeDesc.slice 5, size := 1, bytes := 24, zero := Value.slice none 0 0 } : TI) := by kernel_rfl
theorem ty42 : tyOf Tryd.prog 42 = some ({ desc := TypeDesc.slice 4, size := 1, bytes := 24, zero := Value.slice none 0 0 } : TI) := by kernel_rfl
theorem ty49 : tyOf Tryd.prog 49 = some ({ desc := TypeDesc.struct #[{ name := "addr", type := 48, offset := 0, embedded := false, tag := "", pkgPath := "strings", byteOffset := 0 }, { name := "buf", type := 37, offset := 1, embedded := false, tag := "", pkgPath := "strings", byteOffset := 8 }], size := 2, bytes := 32, zero := Value.agg #[Value.pointer none, Value.slice none 0 0] } : TI) := by kernel_rfl
theorem ty50 : tyOf Tryd.prog 50 = some ({ desc := TypeDesc.struct #[{ name := "addr", type := 48, offset := 0, embedded := false, tag := "", pkgPath := "strings", byteOffset := 0 }, { name := "buf", type := 37, offset := 1, embedded := false, tag := "", pkgPath := "strings", byteOffset := 8 }], size := 2, bytes := 32, zero := Value.agg #[Value.pointer none, Value.slice none 0 0] } : TI) := by kernel_rfl
theorem ty53 : tyOf Tryd.prog 53 = some ({ desc := TypeDesc.interface #[("Error", 56)], size := 1, bytes := 16, zero := Value.nilIface } : TI) := by kernel_rfl
theorem ty65 : tyOf Tryd.prog 65 = some ({ desc := TypeDesc.array 24 5, size := 24, bytes := 24, zero := Value.agg #[Value.int IntKind.u8 0, Value.int IntKind.u8 0, Value.int IntKind.u8 0, Value.int IntKind.u8 0, Value.int IntKind.u8 0, Value.int IntKind.u8 0, Value.int IntKind.u8 0, Value.int IntKind.u8 0, Value.int IntKind.u8 0, Value.int IntKind.u8 0, Value.int IntKind.u8 0, Value.int IntKind.u8 0, Value.int IntKind.u8 0, Value.int IntKind.u8 0, Value.int IntKind.u8 0, Value.int IntKind.u8 0, Value.int IntKind.u8 0, Value.int IntKind.u8 0, Value.int IntKind.u8 0, Value.int IntKind.u8 0, Value.int IntKind.u8 0, Value.int IntKind.u8 0, Value.int IntKind.u8 0, Value.int IntKind.u8 0] } : TI) := by kernel_rfl
theorem ty66 : tyOf Tryd.prog 66 = some ({ desc := TypeDesc.int IntKind.u64, size := 1, bytes := 8, zero := Value.int IntKind.u64 0 } : TI) := by kernel_rfl
theorem ty74 : tyOf Tryd.prog 74 = some ({ desc := TypeDesc.int IntKind.u64, size := 1, bytes := 8, zero := Value.int IntKind.u64 0 } : TI) := by kernel_rfl
theorem ty77 : tyOf Tryd.prog 77 = some ({ desc := TypeDesc.array 20 66, size := 20, bytes := 160, zero := Value.agg #[Value.int IntKind.u64 0, Value.int IntKind.u64 0, Value.int IntKind.u64 0, Value.int IntKind.u64 0, Value.int IntKind.u64 0, Value.int IntKind.u64 0, Value.int IntKind.u64 0, Value.int IntKind.u64 0, Value.int IntKind.u64 0, Value.int IntKind.u64 0, Value.int IntKind.u64 0, Value.int IntKind.u64 0, Value.int IntKind.u64 0, Value.int IntKind.u64 0, Value.int IntKind.u64 0, Value.int IntKind.u64 0, Value.int IntKind.u64 0, Value.int IntKind.u64 0, Value.int IntKind.u64 0, Value.int IntKind.u64 0] } : TI) := by kernel_rfl
theorem ty78 : tyOf Tryd.prog 78 = some ({ desc := TypeDesc.int IntKind.u32, size := 1, bytes := 4, zero := Value.int IntKind.u32 0 } : TI) := by kernel_rfl
theorem ty79 : tyOf Tryd.prog 79 = some ({ desc := TypeDesc.array 65 5, size := 65, bytes := 65, zero := Value.agg #[Value.int IntKind.u8 0, Value.int IntKind.u8 0, Value.int IntKind.u8 0, Value.int IntKind.u8 0, Value.int IntKind.u8 0, Value.int IntKind.u8 0, Value.int IntKind.u8 0, Value.int IntKind.u8 0, Value.int IntKind.u8 0, Value.int IntKind.u8 0, Value.int IntKind.u8 0, Value.int IntKind.u8 0, Value.int IntKind.u8 0, Value.int IntKind.u8 0, Value.int IntKind.u8 0, Value.int IntKind.u8 0, Value.int IntKind.u8 0, Value.int IntKind.u8 0, Value.int IntKind.u8 0, Value.int IntKind.u8 0, Value.int IntKind.u8 0, Value.int IntKind.u8 0, Value.int IntKind.u8 0, Value.int IntKind.u8 0, Value.int IntKind.u8 0, Value.int IntKind.u8 0, Value.int IntKind.u8 0, Value.int IntKind.u8 0, Value.int IntKind.u8 0, Value.int IntKind.u8 0, Value.int IntKind.u8 0, Value.int IntKind.u8 0, Value.int IntKind.u8 0, Value.int IntKind.u8 0, Value.int IntKind.u8 0, Value.int IntKind.u8 0, Value.int IntKind.u8 0, Value.int IntKind.u8 0, Value.int IntKind.u8 0, Value.int IntKind.u8 0, Value.int IntKind.u8 0, Value.int IntKind.u8 0, Value.int IntKind.u8 0, Value.int IntKind.u8 0, Value.int IntKind.u8 0, Value.int IntKind.u8 0, Value.int IntKind.u8 0, Value.int IntKind.u8 0, Value.int IntKind.u8 0, Value.int IntKind.u8 0, Value.int IntKind.u8 0, Value.int IntKind.u8 0, Value.int IntKind.u8 0, Value.int IntKind.u8 0, Value.int IntKind.u8 0, Value.int IntKind.u8 0, Value.int IntKind.u8 0, Value.int IntKind.u8 0, Value.int IntKind.u8 0, Value.int IntKind.u8 0, Value.int IntKind.u8 0, Value.int IntKind.u8 0, Value.int IntKind.u8 0, Value.int IntKind.u8 0, Value.int IntKind.u8 0] } : TI) := by kernel_rfl
theorem ty82 : tyOf Tryd.prog 82 = some ({ desc := TypeDesc.array 32 5, size := 32, bytes := 32, zero := Value.agg #[Value.int IntKind.u8 0, Value.int IntKind.u8 0, Value.int IntKind.u8 0, Value.int IntKind.u8 0, Value.int IntKind.u8 0, Value.int IntKind.u8 0, Value.int IntKind.u8 0, Value.int IntKind.u8 0, Value.int IntKind.u8 0, Value.int IntKind.u8 0, Value.int IntKind.u8 0, Value.int IntKind.u8 0, Value.int IntKind.u8 0, Value.int IntKind.u8 0, Value.int IntKind.u8 0, Value.int IntKind.u8 0, Value.int IntKind.u8 0, Value.int IntKind.u8 0, Value.int IntKind.u8 0, Value.int IntKind.u8 0, Value.int IntKind.u8 0, Value.int IntKind.u8 0, Value.int IntKind.u8 0, Value.int IntKind.u8 0, Value.int IntKind.u8 0, Value.int IntKind.u8 0, Value.int IntKind.u8 0, Value.int IntKind.u8 0, Value.int IntKind.u8 0, Value.int IntKind.u8 0, Value.int IntKind.u8 0, Value.int IntKind.u8 0] } : TI) := by kernel_rfl
theorem ty83 : tyOf Tryd.prog 83 = some ({ desc := TypeDesc.array 64 5, size := 64, bytes := 64, zero := Value.agg #[Value.int IntKind.u8 0, Value.int IntKind.u8 0, Value.int IntKind.u8 0, Value.int IntKind.u8 0, Value.int IntKind.u8 0, Value.int IntKind.u8 0, Value.int IntKind.u8 0, Value.int IntKind.u8 0, Value.int IntKind.u8 0, Value.int IntKind.u8 0, Value.int IntKind.u8 0, Value.int IntKind.u8 0, Value.int IntKind.u8 0, Value.int IntKind.u8 0, Value.int IntKind.u8 0, Value.int IntKind.u8 0, Value.int IntKind.u8 0, Value.int IntKind.u8 0, Value.int IntKind.u8 0, Value.int IntKind.u8 0, Value.int IntKind.u8 0, Value.int IntKind.u8 0, Value.int IntKind.u8 0, Value.int IntKind.u8 0, Value.int IntKind.u8 0, Value.int IntKind.u8 0, Value.int IntKind.u8 0, Value.int IntKind.u8 0, Value.int IntKind.u8 0, Value.int IntKind.u8 0, Value.int IntKind.u8 0, Value.int IntKind.u8 0, Value.int IntKind.u8 0, Value.int IntKind.u8 0, Value.int IntKind.u8 0, Value.int IntKind.u8 0, Value.int IntKind.u8 0, Value.int IntKind.u8 0, Value.int IntKind.u8 0, Value.int IntKind.u8 0, Value.int IntKind.u8 0, Value.int IntKind.u8 0, Value.int IntKind.u8 0, Value.int IntKind.u8 0, Value.int IntKind.u8 0, Value.int IntKind.u8 0, Value.int IntKind.u8 0, Value.int IntKind.u8 0, Value.int IntKind.u8 0, Value.int IntKind.u8 0, Value.int IntKind.u8 0, Value.int IntKind.u8 0, Value.int IntKind.u8 0, Value.int IntKind.u8 0, Value.int IntKind.u8 0, Value.int IntKind.u8 0, Value.int IntKind.u8 0, Value.int IntKind.u8 0, Value.int IntKind.u8 0, Value.int IntKind.u8 0, Value.int IntKind.u8 0, Value.int IntKind.u8 0, Value.int IntKind.u8 0, Value.int IntKind.u8 0] } : TI) := by kernel_rfl
theorem ty86 : tyOf Tryd.prog 86 = some ({ desc := TypeDesc.array 0 16, size := 0, bytes := 0, zero := Value.agg #[] } : TI) := by kernel_rfl
theorem ty95 : tyOf Tryd.prog 95 = some ({ desc := TypeDesc.struct #[{ name := "Size_", type := 12, offset := 0, embedded := false, tag := "", pkgPath := "", byteOffset := 0 }, { name := "PtrBytes", type := 12, offset := 1, embedded := false, tag := "", pkgPath := "", byteOffset := 8 }, { name := "Hash", type := 78, offset := 2, embedded := false, tag := "", pkgPath := "", byteOffset := 16 }, { name := "TFlag", type := 90, offset := 3, embedded := false, tag := "", pkgPath := "", byteOffset := 20 }, { name := "Align_", type := 5, offset := 4, embedded := false, tag := "", pkgPath := "", byteOffset := 21 }, { name := "FieldAlign_", type := 5, offset := 5, embedded := false, tag := "", pkgPath := "", byteOffset := 22 }, { name := "Kind_", type := 91, offset := 6, embedded := false, tag := "", pkgPath := "", byteOffset := 23 }, { name := "Equal", type := 92, offset := 7, embedded := false, tag := "", pkgPath := "", byteOffset := 24 }, { name := "GCData", type := 62, offset := 8, embedded := false, tag := "", pkgPath := "", byteOffset := 32 }, { name := "Str", type := 93, offset := 9, embedded := false, tag := "", pkgPath := "", byteOffset := 40 }, { name := "PtrToThis", type := 94, offset := 10, embedded := false, tag := "", pkgPath := "", byteOffset := 44 }], size := 11, bytes := 48, zero := Value.agg #[Value.int IntKind.u64 0, Value.int IntKind.u64 0, Value.int IntKind.u32 0, Value.int IntKind.u8 0, Value.int IntKind.u8 0, Value.int IntKind.u8 0, Value.int IntKind.u8 0, Value.nilFunc, Value.pointer none, Value.int IntKind.i32 0, Value.int IntKind.i32 0] } : TI) := by kernel_rfl

/-- No structs of plain ints are compared. -/
def eqT : TypeId → Option Nat := fun _ => none
theorem eqOk : ∀ t n, eqT t = some n → EqOk Tryd.prog t n := fun _ _ h => by simp [eqT] at h

attribute [simp] awp_skip awp_seq awp_block awp_exit awp_ret awp_loop awp_rangeF awp_region awp_cond contS_normal contS_exit contS_ret inB_normal inB_exit inB_ret loopS_normal loopS_exit loopS_ret doneS_normal doneS_ret regS_some condS_bool bindS_some rrun_nil rrun_cons outD_some stepG_some rstep_eq callOut_some callOut_none mutCall_none movCall_none frzCall_none frzCall_some alt_none alt_some regrun_false regrun_true noLd_dt mkLd_dt frzLd_dt ldR_dt dtGet rdraw_eq rrunD_nil rrunD_cons contD_eq rstepD_eq outDr_some outC_zero outC_succ needs chk stR opR jk jkL meets appO appU upX shf nums sets Op.operands Call.operands noM_mk callV_fn aop_call take_map_all guardOk aop ev putD ofV ofV1 Value.oneCell' asNat abin aun pickAV scal frz nilS TypeDesc.aggB AV.cells lenAV getAt loadCell loadCells res resL intern internL putCells ownR ownRL ownV drops flat kill killL killN killNL clean keep refsL refs once place renL ren ctx G resOk resVars resVar pack viewEs bndOf appX appY ty2 ty3 ty4 ty5 ty9 ty12 ty21 ty22 ty30 ty37 ty42 ty49 ty50 ty53 ty65 ty66 ty74 ty77 ty78 ty79 ty82 ty83 ty86 ty95 eqT cellInts bld partOk nilAV bytesOf regS_ite allS_map allS_v allS_rep pickAV_bool nn1 tn1 nz1 nz1' lt1 sub slotsLe rngS_normal rngS_exit rngS_ret ctxV ctxH GH GM GV doneF_normal doneF_ret resVarsF resVarF mutCall movCall others setAt setCell ctxM resM doneM_normal doneM_ret

theorem mixed : Tryd.prog.follows .mixedOrders = true := by kernel_rfl

end Go.Proofs.YtiieikknhheffaaDoor.Ax

/-
  Contracts of small functions. No condition.
-/
namespace Go.Proofs.YtiieikknhheffaaDoor.Ax
open Go Go.RowKit

def mWithin : List AV → Option AV
  | [.v (.int .i64 n), .v (.int .i64 lo), .v (.int .i64 hi)] => some (.v (.bool (decide (lo ≤ n) && decide (n ≤ hi))))
  | _ => none

set_option linter.unusedSimpArgs false
set_option maxHeartbeats 400000 in
theorem within_ok : FnOk Tryd.prog 29 mWithin := by
  intro args r h
  unfold mWithin at h
  split at h
  · rename_i n lo hi
    simp only [Option.some.injEq] at h; subst h
    refine callOk_of_awp (ctx_ok eqOk .nil) mixed (live := [true, true, true, false, false, false, true]) (dt := []) Tryd.func29 rfl (by kernel_rfl) (by kernel_rfl) fun w0 => ?_
    by_cases h : lo ≤ n
    · simp [Tryd.f29, List.range, List.range.loop, h]
    · simp [Tryd.f29, List.range, List.range.loop, h]
  · simp at h

def sumW (xs : List Int) : Int := xs.foldl (fun s n => IntKind.i64.wrap (s + n)) 0

theorem sumW_succ {xs : List Int} {k : Nat} (h : k < xs.length) : sumW (xs.take (k + 1)) = IntKind.i64.wrap (sumW (xs.take k) + xs[k]) := by
  unfold sumW; rw [List.take_succ_eq_append_getElem h, List.foldl_append]; rfl

noncomputable def mSum : List AV → Option AV := mk (fun _ => True) (fun (p : Bool × List Int) => [ints p.1 p.2]) (fun p => int (sumW p.2))

theorem mSum_at (nl : Bool) (xs : List Int) : mSum [.sl nl 1 (xs.map int)] = some (.v (.int .i64 (sumW xs))) :=
  mk_eq (enc := fun (p : Bool × List Int) => [ints p.1 p.2]) (x := (nl, xs)) (by rintro ⟨a, b⟩ ⟨c, d⟩ h; simp [ints, map_int_inj] at h; simp [h]) trivial

theorem lens_ints {nl : Bool} {xs : List Int} : lens (.sl nl 1 (xs.map int)) ↔ xs.length ≤ 9223372036854775807 ∧ (nl = true → xs = []) := by
  simp [lens, lensL_map, int]

set_option maxHeartbeats 400000 in
theorem sumOf_ok : FnOk Tryd.prog 27 mSum := by
  refine mk_ok fun ⟨nl, xs⟩ _ => ?_
  refine callOk_awp (ctx_ok eqOk .nil) mixed (live := [true, false, true, true, false, true, true, true, true, true]) (dt := []) Tryd.func27 rfl (by kernel_rfl) (by kernel_rfl) fun w0 hlens => ?_
  have hpre : xs.length ≤ 9223372036854775807 := (lens_ints.1 hlens.1).1
  simp [Tryd.f27, List.range, List.range.loop, ints]
  refine awp_loop_of (ctx_ok eqOk .nil) mixed (live := [true, false, true, true, false, true, true, true, true, true]) [true, false, true, true, false, false, true, true, true] (α := {k : Nat // k ≤ xs.length})
    (fun k => ⟨[ints nl xs, .junk, int 0, int (sumW (xs.take k.1)), .junk, .junk, ints nl xs, int xs.length, int k.1, .junk, .junk, .junk, .junk, .junk, .junk, .junk, .junk], []⟩) (fun k => xs.length - k.1) ⟨0, by omega⟩ (by simp [sub, slotsLe, clean, keep, refsL, refs, once, place, renL, ren, List.replicate, int, bool, ints, int, sumW]) ?_
  rintro ⟨k, hk⟩
  by_cases h : k < xs.length
  · simp [List.range, List.range.loop, ints, int, h]
    refine ⟨⟨k + 1, h⟩, ?_, by simp; omega⟩
    simp [sub, slotsLe, clean, keep, refsL, refs, once, place, renL, ren, List.replicate, int, bool, int, ints, sumW_succ h]
    rw [wrapI (by omega) (by omega)]
  · simp [List.range, List.range.loop, ints, int, h]
    rw [List.take_of_length_le (by omega)]

end Go.Proofs.YtiieikknhheffaaDoor.Ax

/-
  Contracts of the functions on fractions. No condition.
-/
namespace Go.Proofs.YtiieikknhheffaaDoor.Ax
open Go Go.RowKit
set_option linter.unusedSimpArgs false

theorem mWithin_at (n lo hi : Int) : mWithin [.v (.int .i64 n), .v (.int .i64 lo), .v (.int .i64 hi)] = some (.v (.bool (decide (lo ≤ n) && decide (n ≤ hi)))) := rfl

set_option maxHeartbeats 400000 in
theorem l01In_ok : FnOk Tryd.prog 22 mWithin := by
  intro args r h
  unfold mWithin at h
  split at h
  · rename_i n lo hi
    simp only [Option.some.injEq] at h; subst h
    refine callOk_of_awp (ctx_ok eqOk .nil) mixed (live := [true, true, true, false, false, false, true]) (dt := []) Tryd.func22 rfl (by kernel_rfl) (by kernel_rfl) fun w0 => ?_
    by_cases h : lo ≤ n
    · simp [Tryd.f22, List.range, List.range.loop, h]
    · simp [Tryd.f22, List.range, List.range.loop, h]
  · simp at h

/-- The greatest divisor of two ints, where it stays small. -/
noncomputable def mGcd (lo : Int) : List AV → Option AV := mk (fun (p : Int × Int) => lo ≤ p.1 ∧ p.1 ≤ 4611686018427387904 ∧ lo ≤ p.2 ∧ p.2 ≤ 4611686018427387904) (fun p => [int p.1, int p.2]) (fun p => int (Int.gcd p.1 p.2))

theorem mGcd_at (lo a b : Int) (h1 : lo ≤ a) (h2 : a ≤ 4611686018427387904) (h3 : lo ≤ b) (h4 : b ≤ 4611686018427387904) : mGcd lo [.v (.int .i64 a), .v (.int .i64 b)] = some (.v (.int .i64 (Int.gcd a b))) :=
  mk_eq (enc := fun (p : Int × Int) => [int p.1, int p.2]) (x := (a, b)) (by rintro ⟨a, b⟩ ⟨c, d⟩ h; simp [int] at h; simp [h]) ⟨h1, h2, h3, h4⟩

theorem gcd_step (x y : Int) : Int.gcd y (x.tmod y) = Int.gcd x y := by
  simp only [Int.gcd, Int.natAbs_tmod]
  rw [Nat.gcd_comm x.natAbs y.natAbs, Nat.gcd_comm y.natAbs (x.natAbs % y.natAbs), ← Nat.gcd_rec]

theorem tmod_small (x y : Int) (h : y ≠ 0) : (x.tmod y).natAbs < y.natAbs := by
  rw [Int.natAbs_tmod]; exact Nat.mod_lt _ (by omega)

def frac (f : Int × Int) : AV := .agg [.v (.int .i64 f.1), .v (.int .i64 f.2)]
def fracs (nl : Bool) (xs : List (Int × Int)) : AV := .sl nl 2 (xs.map frac)

theorem frac_inj {a b : Int × Int} : frac a = frac b ↔ a = b := by
  obtain ⟨a, a'⟩ := a; obtain ⟨b, b'⟩ := b; simp [frac]
theorem map_frac_inj {a b : List (Int × Int)} : a.map frac = b.map frac ↔ a = b := by
  constructor
  · intro h; exact (List.map_inj_right (fun x y => frac_inj.1)).1 h
  · rintro rfl; rfl

/-- A valid fraction. -/
def fracOk (f : Int × Int) : Bool := (decide (-1000000000 ≤ f.1) && decide (f.1 ≤ 1000000000)) && (decide (1 ≤ f.2) && decide (f.2 ≤ 1000000000)) && decide (Int.gcd f.1 f.2 = 1)

noncomputable def mFracOk : List AV → Option AV := mk (fun _ => True) (fun (f : Int × Int) => [frac f]) (fun f => bool (fracOk f))
theorem mFracOk_at (t b : Int) : mFracOk [.agg [.v (.int .i64 t), .v (.int .i64 b)]] = some (.v (.bool (fracOk (t, b)))) :=
  mk_eq (enc := fun f => [frac f]) (x := (t, b)) (by intro x y h; simp [frac_inj] at h; simp [h]) trivial

theorem gcd_abs (t b : Int) : Int.gcd (max t (-t)) b = Int.gcd t b := by
  simp only [Int.gcd]
  congr 1; omega

def mWhole : List AV → Option AV
  | [.v (.int .i64 n)] => some (.agg [.v (.int .i64 n), .v (.int .i64 1)])
  | _ => none
theorem mWhole_at (n : Int) : mWhole [.v (.int .i64 n)] = some (.agg [.v (.int .i64 n), .v (.int .i64 1)]) := rfl

noncomputable def mId1 : List AV → Option AV := mk (fun _ => True) (fun (f : Int × Int) => [frac f]) (fun f => frac f)
theorem mId1_at (t b : Int) : mId1 [.agg [.v (.int .i64 t), .v (.int .i64 b)]] = some (.agg [.v (.int .i64 t), .v (.int .i64 b)]) :=
  mk_eq (enc := fun f => [frac f]) (x := (t, b)) (by intro x y h; simp [frac_inj] at h; simp [h]) trivial

noncomputable def mEqF : List AV → Option AV := mk (fun _ => True) (fun (p : (Int × Int) × (Int × Int)) => [frac p.1, frac p.2]) (fun p => bool (decide (p.1 = p.2)))
theorem mEqF_at (a b c d : Int) : mEqF [.agg [.v (.int .i64 a), .v (.int .i64 b)], .agg [.v (.int .i64 c), .v (.int .i64 d)]] = some (.v (.bool (decide ((a, b) = (c, d))))) :=
  mk_eq (enc := fun (p : (Int × Int) × (Int × Int)) => [frac p.1, frac p.2]) (x := ((a, b), (c, d))) (by rintro ⟨x, x'⟩ ⟨y, y'⟩ h; simp [frac_inj] at h; simp [h]) trivial

noncomputable def mSzF : List AV → Option AV := mk (fun p => p.2.1.length < 2 ^ 63 ∧ 0 ≤ p.2.2 ∧ p.2.2 ≤ 2 ^ 62) (fun (p : Bool × List (Int × Int) × Int) => [fracs p.1 p.2.1, int p.2.2]) (fun p => int (if p.2.2 < p.2.1.length then -1 else p.2.2 - p.2.1.length))
theorem mSzF_at (nl : Bool) (xs : List (Int × Int)) (l : Int) (h : xs.length < 2 ^ 63) (h1 : 0 ≤ l) (h2 : l ≤ 2 ^ 62) : mSzF [.sl nl 2 (xs.map frac), .v (.int .i64 l)] = some (.v (.int .i64 (if l < xs.length then -1 else l - xs.length))) :=
  mk_eq (enc := fun (p : Bool × List (Int × Int) × Int) => [fracs p.1 p.2.1, int p.2.2]) (x := (nl, xs, l)) (by rintro ⟨x, x', x''⟩ ⟨y, y', y''⟩ h; simp [fracs, int, map_frac_inj] at h; simp [h]) ⟨h, h1, h2⟩

end Go.Proofs.YtiieikknhheffaaDoor.Ax

/-
  Contracts of the functions on lists of fractions. No condition.
-/
namespace Go.Proofs.YtiieikknhheffaaDoor.Ax
open Go Go.RowKit
set_option linter.unusedSimpArgs false

/-- A row of which the first k elements are filled. -/
def filled {α : Type} (f : α → AV) (z : AV) (xs : List α) (k : Nat) : List AV := (xs.take k).map f ++ List.replicate (xs.length - k) z

section
variable {α : Type} {f : α → AV} {z : AV} {xs : List α} {k : Nat}
theorem filled_len (h : k ≤ xs.length) : (filled f z xs k).length = xs.length := by simp [filled]; omega
theorem filled_get (h : k < xs.length) : (filled f z xs k)[k]? = some z := by
  unfold filled
  rw [List.getElem?_append_right (by simp; omega), List.getElem?_replicate]
  have h1 : ((xs.take k).map f).length = k := by simp; omega
  rw [h1, if_pos (by omega)]
theorem filled_get' (h : k < xs.length) (hh : k < (filled f z xs k).length) : (filled f z xs k)[k] = z := by
  have := filled_get (f := f) (z := z) h
  rw [List.getElem?_eq_getElem hh] at this
  exact Option.some.inj this
theorem filled_set (h : k < xs.length) : (filled f z xs k).set k (f xs[k]) = filled f z xs (k + 1) := by
  unfold filled
  rw [List.take_succ_eq_append_getElem h, List.map_append, List.set_append]
  have hl : ((xs.take k).map f).length = k := by simp; omega
  rw [if_neg (by omega), hl, Nat.sub_self]
  obtain ⟨m, hm⟩ : ∃ m, xs.length - k = m + 1 := ⟨xs.length - k - 1, by omega⟩
  rw [hm, List.replicate_succ, show xs.length - (k + 1) = m by omega]
  simp
theorem filled_zero : filled f z xs 0 = List.replicate xs.length z := by simp [filled]
theorem filled_all : filled f z xs xs.length = xs.map f := by simp [filled]
end

noncomputable def mToFs : List AV → Option AV := mk (fun p => p.2.length ≤ 2 ^ 40) (fun (p : Bool × List (Int × Int)) => [fracs p.1 p.2]) (fun p => fracs false p.2)
theorem mToFs_at (nl : Bool) (xs : List (Int × Int)) (h : xs.length ≤ 2 ^ 40) : mToFs [.sl nl 2 (xs.map frac)] = some (.sl false 2 (xs.map frac)) :=
  mk_eq (enc := fun (p : Bool × List (Int × Int)) => [fracs p.1 p.2]) (x := (nl, xs)) (by rintro ⟨x, x'⟩ ⟨y, y'⟩ h; simp [fracs, map_frac_inj] at h; simp [h]) h

noncomputable def mEqFs : List AV → Option AV := mk (fun p => p.1.2.length ≤ 2 ^ 40 ∧ p.2.2.length ≤ 2 ^ 40) (fun (p : (Bool × List (Int × Int)) × (Bool × List (Int × Int))) => [fracs p.1.1 p.1.2, fracs p.2.1 p.2.2]) (fun p => bool (decide (p.1.2 = p.2.2)))
theorem mEqFs_at (nl nl' : Bool) (xs ys : List (Int × Int)) (h : xs.length ≤ 2 ^ 40) (h' : ys.length ≤ 2 ^ 40) : mEqFs [.sl nl 2 (xs.map frac), .sl nl' 2 (ys.map frac)] = some (.v (.bool (decide (xs = ys)))) :=
  mk_eq (enc := fun (p : (Bool × List (Int × Int)) × (Bool × List (Int × Int))) => [fracs p.1.1 p.1.2, fracs p.2.1 p.2.2]) (x := ((nl, xs), (nl', ys))) (by rintro ⟨⟨x, x'⟩, ⟨x'', x3⟩⟩ ⟨⟨y, y'⟩, ⟨y'', y3⟩⟩ h; simp [fracs, map_frac_inj] at h; simp [h]) ⟨h, h'⟩

/-- Two lists that agree up to k. -/
theorem take_eq_succ {α : Type} {xs ys : List α} {k : Nat} (h1 : k < xs.length) (h2 : k < ys.length) : xs.take (k + 1) = ys.take (k + 1) ↔ xs.take k = ys.take k ∧ xs[k] = ys[k] := by
  rw [List.take_succ_eq_append_getElem h1, List.take_succ_eq_append_getElem h2]
  constructor
  · intro h
    have := List.append_inj h (by simp; omega)
    simpa using this
  · rintro ⟨h, h'⟩; rw [h, h']

end Go.Proofs.YtiieikknhheffaaDoor.Ax

/-
  What this seat's laws are handed: arguments of the types that they meet. No condition.
-/
namespace Go.Proofs.YtiieikknhheffaaDoor.Ax
open Go Go.RowKit

theorem datInts {a : AV} (h : DatE Tryd.prog 22 a) : ∃ nl xs, a = ints nl xs ∧ xs.length ≤ maxLen ∧ ∀ x ∈ xs, (Lit.int .i64 x).wf = true :=
  h.ints Tryd.underlying22 Tryd.underlying3 (by kernel_rfl)

end Go.Proofs.YtiieikknhheffaaDoor.Ax

/-
  Contracts of the functions on lists of ints. No condition.
-/
namespace Go.Proofs.YtiieikknhheffaaDoor.Ax
open Go Go.RowKit
set_option linter.unusedSimpArgs false

noncomputable def mToIs : List AV → Option AV := mk (fun p => p.2.length ≤ 2 ^ 40) (fun (p : Bool × List Int) => [ints p.1 p.2]) (fun p => ints false p.2)
theorem mToIs_at (nl : Bool) (xs : List Int) (h : xs.length ≤ 2 ^ 40) : mToIs [.sl nl 1 (xs.map int)] = some (.sl false 1 (xs.map int)) :=
  mk_eq (enc := fun (p : Bool × List Int) => [ints p.1 p.2]) (x := (nl, xs)) (by rintro ⟨x, x'⟩ ⟨y, y'⟩ h; simp [ints, map_int_inj] at h; simp [h]) h

set_option maxHeartbeats 1000000 in
theorem toIntS_ok : FnOk Tryd.prog 5 mToIs := by
  refine mk_ok fun ⟨nl, xs⟩ hpre => ?_
  simp only at hpre
  refine callOk_of_awp (ctx_ok eqOk .nil) mixed (live := [true, false, true, true, true, false, false, false, false, false, false, true]) (dt := []) Tryd.func5 rfl (by kernel_rfl) (by kernel_rfl) fun w0 => ?_
  have hb : 8 * xs.length ≤ 281474976710656 := by omega
  have hn : xs.length ≤ 4611686018427387904 := by omega
  simp [Tryd.f5, List.range, List.range.loop, ints, hb, hn]
  refine awp_loop_of (ctx_ok eqOk .nil) mixed (live := [true, false, true, true, true, false, false, false, false, false, false, true]) [true, false, true, true, true] (α := {k : Nat // k ≤ xs.length})
    (fun k => ⟨[ints nl xs, .junk, .sl true 1 [], .ref 0 [] 0 xs.length, int k.1] ++ List.replicate 17 .junk, [⟨true, .sl false 1 (filled int (int 0) xs k.1)⟩]⟩) (fun k => xs.length - k.1) ⟨0, by omega⟩
    (by simp [sub, slotsLe, clean, keep, refsL, refs, once, place, renL, ren, List.replicate, int, bool, ints, filled_zero]) ?_
  rintro ⟨k, hk⟩
  by_cases h : k < xs.length
  · have hl := filled_len (f := int) (z := AV.v (.int .i64 0)) hk
    have hg := filled_get (f := int) (z := AV.v (.int .i64 0)) h
    have hg' := filled_get' (f := int) (z := AV.v (.int .i64 0)) h
    simp [List.range, List.range.loop, ints, int, h, List.replicate, hl, hg, hg']
    refine ⟨⟨k + 1, h⟩, ?_, by simp; omega⟩
    have hset := filled_set (f := int) (z := AV.v (.int .i64 0)) h
    simp only [int] at hset
    simp [sub, slotsLe, clean, keep, refsL, refs, once, place, renL, ren, List.replicate, int, bool, ints, hset, hl]
    exact wrapI (by omega) (by omega)
  · have hk' : k = xs.length := by omega
    subst hk'
    simp [List.range, List.range.loop, ints, int, h, List.replicate, filled_all]

noncomputable def mSzI : List AV → Option AV := mk (fun p => p.2.1.length < 2 ^ 63 ∧ 0 ≤ p.2.2 ∧ p.2.2 ≤ 2 ^ 62) (fun (p : Bool × List Int × Int) => [ints p.1 p.2.1, int p.2.2]) (fun p => int (if p.2.2 < p.2.1.length then -1 else p.2.2 - p.2.1.length))
theorem mSzI_at (nl : Bool) (xs : List Int) (l : Int) (h : xs.length < 2 ^ 63) (h1 : 0 ≤ l) (h2 : l ≤ 2 ^ 62) : mSzI [.sl nl 1 (xs.map int), .v (.int .i64 l)] = some (.v (.int .i64 (if l < xs.length then -1 else l - xs.length))) :=
  mk_eq (enc := fun (p : Bool × List Int × Int) => [ints p.1 p.2.1, int p.2.2]) (x := (nl, xs, l)) (by rintro ⟨x, x', x''⟩ ⟨y, y', y''⟩ h; simp [ints, int_inj, map_int_inj] at h; simp [h]) ⟨h, h1, h2⟩

noncomputable def mEqIs : List AV → Option AV := mk (fun p => p.1.2.length ≤ 2 ^ 40 ∧ p.2.2.length ≤ 2 ^ 40) (fun (p : (Bool × List Int) × (Bool × List Int)) => [ints p.1.1 p.1.2, ints p.2.1 p.2.2]) (fun p => bool (decide (p.1.2 = p.2.2)))
theorem mEqIs_at (nl nl' : Bool) (xs ys : List Int) (h : xs.length ≤ 2 ^ 40) (h' : ys.length ≤ 2 ^ 40) : mEqIs [.sl nl 1 (xs.map int), .sl nl' 1 (ys.map int)] = some (.v (.bool (decide (xs = ys)))) :=
  mk_eq (enc := fun (p : (Bool × List Int) × (Bool × List Int)) => [ints p.1.1 p.1.2, ints p.2.1 p.2.2]) (x := ((nl, xs), (nl', ys))) (by rintro ⟨⟨x, x'⟩, ⟨x'', x3⟩⟩ ⟨⟨y, y'⟩, ⟨y'', y3⟩⟩ h; simp [ints, map_int_inj] at h; simp [h]) ⟨h, h'⟩

set_option maxHeartbeats 1000000 in
theorem eqIntS_ok : FnOk Tryd.prog 7 mEqIs := by
  refine mk_ok fun ⟨⟨nl, xs⟩, ⟨nl', ys⟩⟩ ⟨hp, hp'⟩ => ?_
  simp only at hp hp'
  refine callOk_of_awp (ctx_ok eqOk .nil) mixed (live := [true, true, false, false, true, true, false, false, false, false, true, false, false, false, true, false, false, false, false, false, false, false, false, false, false, true]) (dt := [(6, ⟨[], [], []⟩)]) Tryd.func7 rfl (by kernel_rfl) (by kernel_rfl) fun w0 => ?_
  by_cases hl : xs.length = ys.length
  · simp [Tryd.f7, List.range, List.range.loop, ints, hl]
    refine awp_loop_of (ctx_ok eqOk .nil) mixed (live := [true, true, false, false, true, true, false, false, false, false, true, false, false, false, true, false, false, false, false, false, false, false, false, false, false, true]) [true, true, false, false, true, true] (α := {k : Nat // k ≤ ys.length ∧ xs.take k = ys.take k})
      (fun k => ⟨[ints nl xs, ints nl' ys, .junk, .junk, bool false, int k.1] ++ List.replicate 20 .junk, []⟩) (fun k => ys.length - k.1) ⟨0, by omega, by simp⟩
      (by simp [sub, slotsLe, clean, keep, refsL, refs, once, place, renL, ren, List.replicate, int, bool, ints]) ?_
    rintro ⟨k, hk, he⟩
    by_cases h : k < ys.length
    · have h' : k < xs.length := by omega
      by_cases hx : xs[k] = ys[k]
      · simp [List.range, List.range.loop, ints, int, bool, h, h', hl, List.replicate, hx]
        refine ⟨⟨k + 1, h, (take_eq_succ h' h).2 ⟨he, hx⟩⟩, ?_, by simp; omega⟩
        simp [sub, slotsLe, clean, keep, refsL, refs, once, place, renL, ren, List.replicate, int, bool, ints]
        exact wrapI (by omega) (by omega)
      · have hx' : (xs[k] != ys[k]) = true := by simpa using hx
        simp [List.range, List.range.loop, ints, int, bool, h, h', hl, List.replicate, hx, hx']
        intro e; subst e; exact hx rfl
    · have hk' : k = ys.length := by omega
      subst hk'
      simp [List.range, List.range.loop, ints, int, bool, h, hl, List.replicate]
      rw [List.take_of_length_le (by omega), List.take_of_length_le (by omega)] at he
      exact he
  · have hl' : ((xs.length : Int) != ys.length) = true := by simp; omega
    simp [Tryd.f7, List.range, List.range.loop, ints, hl, hl', bool]
    intro e; rw [e] at hl; exact hl rfl

end Go.Proofs.YtiieikknhheffaaDoor.Ax

/-
  Contracts of the functions on lists of lists of ints. No condition.
-/
namespace Go.Proofs.YtiieikknhheffaaDoor.Ax
open Go Go.RowKit
set_option linter.unusedSimpArgs false

/-- A row: is it nil, its numbers. -/
def row (p : Bool × List Int) : AV := .sl p.1 1 (p.2.map int)
def intss (nl : Bool) (xss : List (Bool × List Int)) : AV := .sl nl 1 (xss.map row)
theorem row_inj {p q : Bool × List Int} : row p = row q ↔ p = q := by
  obtain ⟨a, b⟩ := p; obtain ⟨c, d⟩ := q
  simp [row, map_int_inj]
theorem map_row_inj {a b : List (Bool × List Int)} : a.map row = b.map row ↔ a = b :=
  ⟨fun h => (List.map_inj_right (fun x y => row_inj.1)).1 h, fun h => by rw [h]⟩

theorem lens_row {r : Bool × List Int} : lens (.sl r.1 1 (r.2.map int)) ↔ r.2.length ≤ 9223372036854775807 ∧ (r.1 = true → r.2 = []) := lens_ints
theorem lens_intss {nl : Bool} {xss : List (Bool × List Int)} : lens (.sl nl 1 (xss.map row)) ↔ (xss.length ≤ 9223372036854775807 ∧ (nl = true → xss = [])) ∧ ∀ x ∈ xss, x.2.length ≤ 9223372036854775807 ∧ (x.1 = true → x.2 = []) := by
  simp only [lens, lensL_map, row, List.length_map, List.map_eq_nil_iff, lens_ints]

/-- How many numbers the first k rows hold. -/
def rowSum (xss : List (Bool × List Int)) (k : Nat) : Nat := ((xss.take k).map (·.2.length)).sum
theorem rowSum_zero {xss : List (Bool × List Int)} : rowSum xss 0 = 0 := by simp [rowSum]
theorem rowSum_succ {xss : List (Bool × List Int)} {k : Nat} (h : k < xss.length) : rowSum xss (k + 1) = rowSum xss k + xss[k].2.length := by
  unfold rowSum; rw [List.take_succ_eq_append_getElem h]; simp only [List.map_append, List.sum_append, List.map_cons, List.map_nil, List.sum_cons, List.sum_nil, Nat.add_zero]
theorem rowSum_mono {xss : List (Bool × List Int)} {k n : Nat} (h : k ≤ n) : rowSum xss k ≤ rowSum xss n := by
  induction n with
  | zero => obtain rfl : k = 0 := by omega
            exact Nat.le_refl _
  | succ n ih =>
    by_cases e : k = n + 1
    · rw [e]; exact Nat.le_refl _
    · refine Nat.le_trans (ih (by omega)) ?_
      by_cases hn : n < xss.length
      · rw [rowSum_succ hn]; omega
      · simp only [rowSum]; rw [List.take_of_length_le (by omega), List.take_of_length_le (by omega)]; exact Nat.le_refl _
def need (xss : List (Bool × List Int)) : Nat := xss.length + rowSum xss xss.length

noncomputable def mSzIss : List AV → Option AV := mk (fun p => p.2.1.length < 2 ^ 63 ∧ (∀ x ∈ p.2.1, x.2.length < 2 ^ 63) ∧ 0 ≤ p.2.2 ∧ p.2.2 ≤ 2 ^ 62) (fun (p : Bool × List (Bool × List Int) × Int) => [intss p.1 p.2.1, int p.2.2]) (fun p => int (if p.2.2 < need p.2.1 then -1 else p.2.2 - need p.2.1))
theorem mSzIss_at (nl : Bool) (xss : List (Bool × List Int)) (l : Int) (h : xss.length < 2 ^ 63) (h' : ∀ x ∈ xss, x.2.length < 2 ^ 63) (h1 : 0 ≤ l) (h2 : l ≤ 2 ^ 62) : mSzIss [.sl nl 1 (xss.map row), .v (.int .i64 l)] = some (.v (.int .i64 (if l < need xss then -1 else l - need xss))) :=
  mk_eq (enc := fun (p : Bool × List (Bool × List Int) × Int) => [intss p.1 p.2.1, int p.2.2]) (x := (nl, xss, l)) (by rintro ⟨x, x', x''⟩ ⟨y, y', y''⟩ h; simp [intss, int_inj, map_row_inj] at h; simp [h]) ⟨h, h', h1, h2⟩

/-- A row of the call's own. -/
def orow (p : Bool × List Int) : AV := .sl false 1 (p.2.map int)
def own (xss : List (Bool × List Int)) : List (Bool × List Int) := xss.map fun p => (false, p.2)
theorem own_len {xss : List (Bool × List Int)} : (own xss).length = xss.length := by simp [own]
theorem map_orow {xss : List (Bool × List Int)} : xss.map orow = (own xss).map row := by simp [own, orow, row]
def small (xss : List (Bool × List Int)) : Prop := xss.length ≤ 2 ^ 40 ∧ ∀ x ∈ xss, x.2.length ≤ 2 ^ 40

noncomputable def mToIss : List AV → Option AV := mk (fun p => small p.2) (fun (p : Bool × List (Bool × List Int)) => [intss p.1 p.2]) (fun p => intss false (own p.2))
theorem mToIss_at (nl : Bool) (xss : List (Bool × List Int)) (h : small xss) : mToIss [.sl nl 1 (xss.map row)] = some (.sl false 1 ((own xss).map row)) :=
  mk_eq (enc := fun (p : Bool × List (Bool × List Int)) => [intss p.1 p.2]) (x := (nl, xss)) (by rintro ⟨x, x'⟩ ⟨y, y'⟩ h; simp [intss, map_row_inj] at h; simp [h]) h

theorem take_eq_nums {xss yss : List (Bool × List Int)} {k : Nat} (h1 : k < xss.length) (h2 : k < yss.length) : (xss.take (k + 1)).map (·.2) = (yss.take (k + 1)).map (·.2) ↔ (xss.take k).map (·.2) = (yss.take k).map (·.2) ∧ xss[k].2 = yss[k].2 := by
  rw [List.take_succ_eq_append_getElem h1, List.take_succ_eq_append_getElem h2, List.map_append, List.map_append]
  constructor
  · intro h
    have := List.append_inj h (by simp; omega)
    simpa using this
  · rintro ⟨h, h'⟩; rw [h]; simp [h']

noncomputable def mEqIss : List AV → Option AV := mk (fun p => small p.1.2 ∧ small p.2.2) (fun (p : (Bool × List (Bool × List Int)) × (Bool × List (Bool × List Int))) => [intss p.1.1 p.1.2, intss p.2.1 p.2.2]) (fun p => bool (decide (p.1.2.map (·.2) = p.2.2.map (·.2))))
theorem mEqIss_at (nl nl' : Bool) (xs ys : List (Bool × List Int)) (h : small xs) (h' : small ys) : mEqIss [.sl nl 1 (xs.map row), .sl nl' 1 (ys.map row)] = some (.v (.bool (decide (xs.map (·.2) = ys.map (·.2))))) :=
  mk_eq (enc := fun (p : (Bool × List (Bool × List Int)) × (Bool × List (Bool × List Int))) => [intss p.1.1 p.1.2, intss p.2.1 p.2.2]) (x := ((nl, xs), (nl', ys))) (by rintro ⟨⟨x, x'⟩, ⟨x'', x3⟩⟩ ⟨⟨y, y'⟩, ⟨y'', y3⟩⟩ h; simp [intss, map_row_inj] at h; simp [h]) ⟨h, h'⟩

end Go.Proofs.YtiieikknhheffaaDoor.Ax

/-
  What this seat's laws are handed: lists of lists of ints; facts on the program. No condition.
-/
namespace Go.Proofs.YtiieikknhheffaaDoor.Ax
open Go Go.RowKit

theorem ownP : ownKnob Tryd.prog.godebug = none := by kernel_rfl
theorem laidOutP : laidOutB Tryd.prog = true := by kernel_rfl

end Go.Proofs.YtiieikknhheffaaDoor.Ax

/-
  Contracts of the library's searches over a list by a function. No condition.
-/
namespace Go.Proofs.YtiieikknhheffaaDoor.Ax
open Go Go.RowKit
set_option linter.unusedSimpArgs false

/-- What a closure holds leads into no row of the caller's. -/
structure Pure (caps : List AV) : Prop where
  res : ∀ toks, resL toks caps = caps
  refs : refsL caps = []
  ren : ∀ f, renL f caps = caps

/-- The model that speaks of one call alone. -/
noncomputable def only (a : List AV) (r : AV) : List AV → Option AV := mk (fun _ : Unit => True) (fun _ => a) (fun _ => r)
theorem only_at {a : List AV} {r : AV} : only a r a = some r := mk_eq (enc := fun _ : Unit => a) (x := ()) (fun _ _ _ => rfl) trivial
theorem only_ok {P : Program} {f : FuncId} {a : List AV} {r : AV} (h : CallOk P f a r) : FnOk P f (only a r) := mk_ok fun _ _ => h

theorem as_model {P : Program} {f : FuncId} {a : List AV} {r : AV} (h : CallOk P f a r) : ∃ m, FnOk P f m ∧ m a = some r := ⟨only a r, only_ok h, only_at⟩

def idxOf {α : Type} (p : α → Bool) (xs : List α) : Int := (xs.findIdx? p).elim (-1) fun i => (i : Int)
theorem idxOf_found {α : Type} {p : α → Bool} {xs : List α} {k : Nat} (hk : k < xs.length) (h : ∀ j (hj : j < xs.length), j < k → p xs[j] = false) (hp : p xs[k] = true) : idxOf p xs = k := by
  have : xs.findIdx? p = some k := List.findIdx?_eq_some_iff_getElem.2 ⟨hk, hp, fun j hj => by rw [h j (by omega) hj]; simp⟩
  simp [idxOf, this]
theorem idxOf_none {α : Type} {p : α → Bool} {xs : List α} (h : ∀ j (hj : j < xs.length), j < xs.length → p xs[j] = false) : idxOf p xs = -1 := by
  have : xs.findIdx? p = none := List.findIdx?_eq_none_iff.2 fun x hx => by
    obtain ⟨i, hi, rfl⟩ := List.getElem_of_mem hx
    exact h i hi hi
  simp [idxOf, this]
theorem idxOf_nonneg {α : Type} {p : α → Bool} {xs : List α} : decide (0 ≤ idxOf p xs) = xs.any p := by
  unfold idxOf
  cases h : xs.findIdx? p with
  | none =>
    have := List.findIdx?_eq_none_iff.1 h
    simp
    exact this
  | some i =>
    obtain ⟨hi, hp, _⟩ := List.findIdx?_eq_some_iff_getElem.1 h
    simp
    exact ⟨_, List.getElem_mem hi, hp⟩
theorem ge_zero {x : Int} : decide (x ≥ 0) = decide (0 ≤ x) := rfl


set_option maxHeartbeats 1000000 in
theorem indexInts {g : FuncId} {caps : List AV} (hc : Pure caps) (p : Int → Bool) (nl : Bool) (xs : List (Int)) (hg : ∀ x ∈ xs, CallOk Tryd.prog g (.v (.int .i64 x) :: caps) (.v (.bool (p x)))) :
    CallOk Tryd.prog 67 [ints nl xs, .fn g caps] (int (idxOf p xs)) := by
  have hG : FnsOk Tryd.prog [(g, mk (fun x => x ∈ xs) (fun x : Int => .v (.int .i64 x) :: caps) (fun x => .v (.bool (p x))))] := .cons (mk_ok fun x hx => hg x hx) .nil
  have hat : ∀ k (h : k < xs.length), mk (fun x => x ∈ xs) (fun x : Int => (.v (.int .i64 x) : AV) :: caps) (fun x => AV.v (.bool (p x))) (.v (.int .i64 xs[k]) :: caps) = some (.v (.bool (p xs[k]))) := fun k h =>
    mk_eq (enc := fun x : Int => (.v (.int .i64 x) : AV) :: caps) (x := xs[k]) (by intro x y h; simp at h; simp [h]) (List.getElem_mem h)
  generalize hm : mk (fun x => x ∈ xs) (fun x : Int => (.v (.int .i64 x) : AV) :: caps) (fun x => AV.v (.bool (p x))) = m at hG hat
  try simp only [ints, int] at hat
  refine callOk_awp (ctx_ok eqOk hG) mixed (live := [true, true, false, false, true, true, false, true, true, true, false, false, false, false, false, false, true]) (dt := []) Tryd.func67 rfl (by kernel_rfl) (by kernel_rfl) fun w0 hlens => ?_
  have hlen : xs.length ≤ 9223372036854775807 := (lens_ints.1 hlens.1).1
  simp [Tryd.f67, List.range, List.range.loop, ints, int, hc.res, hc.refs, hc.ren]
  refine awp_loop_of (ctx_ok eqOk hG) mixed (live := [true, true, false, false, true, true, false, true, true, true, false, false, false, false, false, false, true]) [true, true, false, false, false, false, false, true, true] (α := {k : Nat // k ≤ xs.length ∧ ∀ j (hj : j < xs.length), j < k → p xs[j] = false})
    (fun k => ⟨[ints nl xs, .fn g caps, .junk, .junk, .junk, .junk, .junk, int xs.length, int k.1] ++ List.replicate 10 .junk, []⟩) (fun k => xs.length - k.1) ⟨0, by omega, by omega⟩
    (by simp [sub, slotsLe, clean, keep, refsL, refs, once, place, renL, ren, List.replicate, int, bool, ints, int, hc.refs, hc.ren]) ?_
  rintro ⟨k, hk, hno⟩
  by_cases h : k < xs.length
  · have hz := hat k h
    cases hp : p xs[k] with
    | true =>
      rw [hp] at hz
      simp [List.range, List.range.loop, ints, int, int, h, List.replicate, hc.res, hc.refs, hc.ren, hz, idxOf_found h hno hp]
    | false =>
      rw [hp] at hz
      simp [List.range, List.range.loop, ints, int, int, h, List.replicate, hc.res, hc.refs, hc.ren, hz]
      refine ⟨⟨k + 1, h, fun j hj hjk => ?_⟩, ?_, by simp; omega⟩
      · by_cases e : j = k
        · subst e; exact hp
        · exact hno j hj (by omega)
      simp [sub, slotsLe, clean, keep, refsL, refs, once, place, renL, ren, List.replicate, int, bool, ints, int, hc.refs, hc.ren]
      exact wrapI (by omega) (by omega)
  · have hk' : k = xs.length := by omega
    subst hk'
    simp [List.range, List.range.loop, ints, int, int, h, List.replicate, hc.res, hc.refs, hc.ren, idxOf_none hno]

set_option maxHeartbeats 1000000 in
theorem containsInts {g : FuncId} {caps : List AV} (hc : Pure caps) (p : Int → Bool) (nl : Bool) (xs : List (Int)) (hg : ∀ x ∈ xs, CallOk Tryd.prog g (.v (.int .i64 x) :: caps) (.v (.bool (p x)))) :
    CallOk Tryd.prog 57 [ints nl xs, .fn g caps] (bool (xs.any p)) := by
  have hG : FnsOk Tryd.prog [(67, only [.sl nl 1 (xs.map int), .fn g caps] (.v (.int .i64 (idxOf p xs))))] := .cons (only_ok (indexInts hc p nl xs hg)) .nil
  refine callOk_awp (ctx_ok eqOk hG) mixed (live := [true, true, false, false, true]) (dt := []) Tryd.func57 rfl (by kernel_rfl) (by kernel_rfl) fun w0 hlens => ?_
  simp [Tryd.f57, List.range, List.range.loop, ints, int, bool, hc.res, hc.refs, hc.ren, ge_zero, only_at, idxOf_nonneg]

end Go.Proofs.YtiieikknhheffaaDoor.Ax

/-
  Contracts of allWithin and rectangle. No condition.
-/
namespace Go.Proofs.YtiieikknhheffaaDoor.Ax
open Go Go.RowKit
set_option linter.unusedSimpArgs false

def inR (lo hi x : Int) : Bool := decide (lo ≤ x) && decide (x ≤ hi)

theorem allWithin1 (x lo hi : Int) : CallOk Tryd.prog 58 [.v (.int .i64 x), .fp (.v (.int .i64 lo)) 0, .fp (.v (.int .i64 hi)) 0] (.v (.bool (!inR lo hi x))) := by
  have hG : FnsOk Tryd.prog [(29, mWithin)] := .cons within_ok .nil
  refine callOk_of_awp (ctx_ok eqOk hG) mixed (live := [true, true, true, false, true]) (dt := []) Tryd.func58 rfl (by kernel_rfl) (by kernel_rfl) fun w0 => ?_
  simp [Tryd.f58, List.range, List.range.loop, mWithin, inR]

noncomputable def mAllIn : List AV → Option AV := mk (fun _ => True) (fun (p : Bool × List Int × Int × Int) => [ints p.1 p.2.1, int p.2.2.1, int p.2.2.2]) (fun p => bool (p.2.1.all (inR p.2.2.1 p.2.2.2)))
theorem mAllIn_at (nl : Bool) (xs : List Int) (lo hi : Int) : mAllIn [.sl nl 1 (xs.map int), .v (.int .i64 lo), .v (.int .i64 hi)] = some (.v (.bool (xs.all (inR lo hi)))) :=
  mk_eq (enc := fun (p : Bool × List Int × Int × Int) => [ints p.1 p.2.1, int p.2.2.1, int p.2.2.2]) (x := (nl, xs, lo, hi)) (by rintro ⟨x, x', a, b⟩ ⟨y, y', c, d⟩ h; simp [ints, int_inj, map_int_inj] at h; simp [h]) trivial

theorem not_any_not {α : Type} {p : α → Bool} {xs : List α} : (!xs.any fun x => !p x) = xs.all p := by
  induction xs with
  | nil => rfl
  | cons x xs ih => simp only [List.any_cons, List.all_cons, Bool.not_or, Bool.not_not, ih]

theorem pure_fp {a : AV} {j : Nat} {l : List AV} (h : Pure l) : Pure (.fp a j :: l) := ⟨fun t => by simp [resL, res, h.res], by simp [refsL, refs, h.refs], fun f => by simp [renL, ren, h.ren]⟩
theorem pure_nil : Pure [] := ⟨fun t => by simp [resL], by simp [refsL], fun f => by simp [renL]⟩

theorem allWithin_ok : FnOk Tryd.prog 44 mAllIn := by
  refine mk_ok fun ⟨nl, xs, lo, hi⟩ _ => ?_
  have hc := containsInts (g := 58) (pure_fp (a := .v (.int .i64 lo)) (j := 0) (pure_fp (a := .v (.int .i64 hi)) (j := 0) pure_nil)) (fun x => !inR lo hi x) nl xs (fun x _ => allWithin1 x lo hi)
  have hG : FnsOk Tryd.prog [(57, only _ _)] := .cons (only_ok hc) .nil
  refine callOk_of_awp (ctx_ok eqOk hG) mixed (live := [true, true, true, false, true, true, true]) (dt := []) Tryd.func44 rfl (by kernel_rfl) (by kernel_rfl) fun w0 => ?_
  have ha := only_at (a := [ints nl xs, .fn 58 [.fp (.v (.int .i64 lo)) 0, .fp (.v (.int .i64 hi)) 0]]) (r := bool (xs.any fun x => !inR lo hi x))
  simp only [ints, bool] at ha
  simp [Tryd.f44, List.range, List.range.loop, ints, int, bool, ha, not_any_not]

/-- Is it a row of n numbers, each from 0 to most? -/
def rowIs (n : Nat) (most : Int) (r : Bool × List Int) : Bool := decide (r.2.length = n) && r.2.all (inR 0 most)

def rectB (xss : List (Bool × List Int)) (high wide most : Int) : Bool := match xss with
  | [] => false
  | r0 :: _ => inR 1 high xss.length && inR 1 wide r0.2.length && xss.all (rowIs r0.2.length most)

noncomputable def mRect : List AV → Option AV := mk (fun _ => True) (fun (p : Bool × List (Bool × List Int) × Int × Int × Int) => [intss p.1 p.2.1, int p.2.2.1, int p.2.2.2.1, int p.2.2.2.2]) (fun p => bool (rectB p.2.1 p.2.2.1 p.2.2.2.1 p.2.2.2.2))
theorem mRect_at (nl : Bool) (xs : List (Bool × List Int)) (a b c : Int) : mRect [.sl nl 1 (xs.map row), .v (.int .i64 a), .v (.int .i64 b), .v (.int .i64 c)] = some (.v (.bool (rectB xs a b c))) :=
  mk_eq (enc := fun (p : Bool × List (Bool × List Int) × Int × Int × Int) => [intss p.1 p.2.1, int p.2.2.1, int p.2.2.2.1, int p.2.2.2.2]) (x := (nl, xs, a, b, c)) (by rintro ⟨x, x', a, b, c⟩ ⟨y, y', d, e, f⟩ h; simp [intss, int_inj, map_row_inj] at h; simp [h]) trivial

end Go.Proofs.YtiieikknhheffaaDoor.Ax

/-
  Contracts of BidsOk and CakeOk. No condition.
-/
namespace Go.Proofs.YtiieikknhheffaaDoor.Ax
open Go Go.RowKit
set_option linter.unusedSimpArgs false

noncomputable def mGrid (a b c : Int) : List AV → Option AV := mk (fun _ => True) (fun (p : Bool × List (Bool × List Int)) => [intss p.1 p.2]) (fun p => bool (rectB p.2 a b c))
theorem mGrid_at {a b c : Int} (nl : Bool) (xs : List (Bool × List Int)) : mGrid a b c [.sl nl 1 (xs.map row)] = some (.v (.bool (rectB xs a b c))) :=
  mk_eq (enc := fun (p : Bool × List (Bool × List Int)) => [intss p.1 p.2]) (x := (nl, xs)) (by rintro ⟨x, x'⟩ ⟨y, y'⟩ h; simp [intss, map_row_inj] at h; simp [h]) trivial

theorem rectB_eq {xss : List (Bool × List Int)} {a b c : Int} (h : 0 < xss.length) : rectB xss a b c = (inR 1 a xss.length && inR 1 b xss[0].2.length && xss.all (rowIs xss[0].2.length c)) := by
  cases xss with
  | nil => simp at h
  | cons x xs => rfl
theorem rectB_nil {xss : List (Bool × List Int)} {a b c : Int} (h : ¬ 0 < xss.length) : rectB xss a b c = false := by
  cases xss with
  | nil => rfl
  | cons x xs => simp at h

theorem all_of {α : Type} {p : α → Bool} {xs : List α} (h : ∀ j (hj : j < xs.length), j < xs.length → p xs[j] = true) : xs.all p = true := by
  rw [List.all_eq_true]
  intro x hx
  obtain ⟨i, hi, rfl⟩ := List.getElem_of_mem hx
  exact h i hi hi
theorem all_not {α : Type} {p : α → Bool} {xs : List α} {k : Nat} (hk : k < xs.length) (h : p xs[k] = false) : xs.all p = false := by
  rw [List.all_eq_false]
  exact ⟨xs[k], List.getElem_mem hk, by simp [h]⟩

theorem need_small {xss : List (Bool × List Int)} (h : need xss ≤ 1048576) : small xss := by
  simp only [need] at h
  refine ⟨by omega, fun x hx => ?_⟩
  obtain ⟨i, hi, rfl⟩ := List.getElem_of_mem hx
  have h1 := rowSum_succ hi
  have h2 := rowSum_mono (xss := xss) (show i + 1 ≤ xss.length from hi)
  omega
theorem own_small {xss : List (Bool × List Int)} (h : small xss) : small (own xss) := by
  refine ⟨by rw [own_len]; exact h.1, fun x hx => ?_⟩
  simp only [own, List.mem_map] at hx
  obtain ⟨y, hy, rfl⟩ := hx
  exact h.2 y hy

end Go.Proofs.YtiieikknhheffaaDoor.Ax

/-
  Contracts of the reference's BidsOk and CakeOk. No condition.
-/
namespace Go.Proofs.YtiieikknhheffaaDoor.Ax
open Go Go.RowKit
set_option linter.unusedSimpArgs false

end Go.Proofs.YtiieikknhheffaaDoor.Ax

/-
  Contracts: where a number stands in a list (both programs, the library). No condition.
-/
namespace Go.Proofs.YtiieikknhheffaaDoor.Ax
open Go Go.RowKit
set_option linter.unusedSimpArgs false

/-- The place of v among xs from place i on (k: the place of the head), or -1. -/
def posFrom (v : Int) : List Int → Nat → Int
  | [], _ => -1
  | x :: xs, k => if x = v then k else posFrom v xs (k + 1)
def pos (xs : List Int) (v : Int) : Int := posFrom v xs 0

theorem drop_get {α : Type} {xs : List α} {k : Nat} (h : k < xs.length) : xs.drop k = xs[k] :: xs.drop (k + 1) := List.drop_eq_getElem_cons h

noncomputable def mPos : List AV → Option AV := mk (fun _ => True) (fun (p : (Bool) × (List Int) × (Int)) => [ints p.1 p.2.1, int p.2.2]) (fun p => int (pos p.2.1 p.2.2))
theorem mPos_at (nl : Bool) (xs : List Int) (v : Int) : mPos [.sl nl 1 (xs.map int), .v (.int .i64 v)] = some (.v (.int .i64 (pos xs v))) :=
  mk_eq (enc := fun (p : (Bool) × (List Int) × (Int)) => [ints p.1 p.2.1, int p.2.2]) (x := (nl, xs, v)) (by rintro ⟨a0, a1, a2⟩ ⟨b0, b1, b2⟩ h; simp [ints, intss, int, bool, row, frac, fracs, map_int_inj, map_row_inj, frac_inj, map_frac_inj] at h; simp [h]) trivial

end Go.Proofs.YtiieikknhheffaaDoor.Ax

/-
  Contracts: PlaceOf, Contains, awards (both programs). No condition.
-/
namespace Go.Proofs.YtiieikknhheffaaDoor.Ax
open Go Go.RowKit
set_option linter.unusedSimpArgs false

/-- All numbers below n answer yes. -/
def allR (n : Nat) (f : Nat → Bool) : Bool := (List.range n).all f
theorem allR_no {n k : Nat} {f : Nat → Bool} (h : k < n) (hf : f k = false) : allR n f = false := by
  unfold allR; rw [List.all_eq_false]; exact ⟨k, by simpa using h, by simp [hf]⟩
/-- All numbers below k answer yes. -/
def upto (f : Nat → Bool) (k : Nat) : Prop := ∀ j, j < k → f j = true
theorem upto_zero {f : Nat → Bool} : upto f 0 := fun _ h => by omega
theorem upto_succ {k : Nat} {f : Nat → Bool} (h : upto f k) (hk : f k = true) : upto f (k + 1) := fun j hj => by
  by_cases e : j = k
  · subst e; exact hk
  · exact h j (by omega)
theorem allR_yes {n : Nat} {f : Nat → Bool} (h : upto f n) : allR n f = true := by
  unfold allR; rw [List.all_eq_true]; intro x hx; exact h x (by simpa using hx)
theorem allR_and {n : Nat} {f g : Nat → Bool} : allR n (fun i => f i && g i) = (allR n f && allR n g) := by
  unfold allR
  rw [Bool.eq_iff_iff]; simp [List.all_eq_true]
  exact ⟨fun h => ⟨fun x hx => (h x hx).1, fun x hx => (h x hx).2⟩, fun h x hx => ⟨h.1 x hx, h.2 x hx⟩⟩
theorem getD_at {xs : List Int} {k : Nat} (h : k < xs.length) : xs.getD k 0 = xs[k] := by simp [List.getD_eq_getElem?_getD, h]
theorem all_allR {xs : List Int} {p : Int → Bool} : xs.all p = allR xs.length fun i => p (xs.getD i 0) := by
  unfold allR
  rw [Bool.eq_iff_iff]; simp only [List.all_eq_true, List.mem_range]
  constructor
  · intro h i hi; rw [getD_at hi]; exact h _ (List.getElem_mem _)
  · intro h x hx
    obtain ⟨i, hi, rfl⟩ := List.getElem_of_mem hx
    have := h i hi; rwa [getD_at hi] at this

noncomputable def mHas : List AV → Option AV := mk (fun _ => True) (fun (p : (Bool) × (List Int) × (Int)) => [ints p.1 p.2.1, int p.2.2]) (fun p => bool (decide (0 ≤ pos p.2.1 p.2.2)))
theorem mHas_at (nl : Bool) (xs : List Int) (v : Int) : mHas [.sl nl 1 (xs.map int), .v (.int .i64 v)] = some (.v (.bool (decide (0 ≤ pos xs v)))) :=
  mk_eq (enc := fun (p : (Bool) × (List Int) × (Int)) => [ints p.1 p.2.1, int p.2.2]) (x := (nl, xs, v)) (by rintro ⟨a0, a1, a2⟩ ⟨b0, b1, b2⟩ h; simp [ints, intss, int, bool, row, frac, fracs, map_int_inj, map_row_inj, frac_inj, map_frac_inj] at h; simp [h]) trivial

theorem mWithin_in {n lo hi : Int} : mWithin [.v (.int .i64 n), .v (.int .i64 lo), .v (.int .i64 hi)] = some (.v (.bool (inR lo hi n))) := rfl

/-- All numbers of a list are in a range. -/
def allIn (lo hi : Int) (xs : List Int) : Bool := xs.all (inR lo hi)
theorem mAllIn_in {nl : Bool} {xs : List Int} {lo hi : Int} : mAllIn [.sl nl 1 (xs.map int), .v (.int .i64 lo), .v (.int .i64 hi)] = some (.v (.bool (allIn lo hi xs))) := mAllIn_at nl xs lo hi
theorem allIn_eq {lo hi : Int} {xs : List Int} : allIn lo hi xs = allR xs.length fun i => inR lo hi (xs.getD i 0) := all_allR
theorem allIn_mem {lo hi : Int} {xs : List Int} (h : allIn lo hi xs = true) {x : Int} (hx : x ∈ xs) : lo ≤ x ∧ x ≤ hi := by
  have := List.all_eq_true.1 h x hx
  simpa [inR] using this
theorem allIn_at {lo hi : Int} {xs : List Int} (h : allIn lo hi xs = true) {i : Nat} (hi' : i < xs.length) : lo ≤ xs[i] ∧ xs[i] ≤ hi := allIn_mem h (List.getElem_mem hi')

/-- No number of at least 0 twice. -/
def awAt (xs : List Int) (i : Nat) : Bool := !(decide (0 ≤ xs.getD i 0) && decide (0 ≤ pos (xs.take i) (xs.getD i 0)))
def isAwd (xs : List Int) : Bool := allR xs.length (awAt xs)

noncomputable def mIsAwd : List AV → Option AV := mk (fun _ => True) (fun (p : (Bool) × (List Int)) => [ints p.1 p.2]) (fun p => bool (isAwd p.2))
theorem mIsAwd_at (nl : Bool) (xs : List Int) : mIsAwd [.sl nl 1 (xs.map int)] = some (.v (.bool (isAwd xs))) :=
  mk_eq (enc := fun (p : (Bool) × (List Int)) => [ints p.1 p.2]) (x := (nl, xs)) (by rintro ⟨a0, a1⟩ ⟨b0, b1⟩ h; simp [ints, intss, int, bool, row, frac, fracs, map_int_inj, map_row_inj, frac_inj, map_frac_inj] at h; simp [h]) trivial

end Go.Proofs.YtiieikknhheffaaDoor.Ax

/-
  Contracts: AwardOk, AwardWorth (both programs). No condition.
-/
namespace Go.Proofs.YtiieikknhheffaaDoor.Ax
open Go Go.RowKit
set_option linter.unusedSimpArgs false

/-- Number i of a list, or 0. -/
def at0 (xs : List Int) (i : Nat) : Int := xs.getD i 0
theorem at0_get {xs : List Int} {i : Nat} (h : i < xs.length) : xs[i]? = some (at0 xs i) := by unfold at0; simp [List.getD_eq_getElem?_getD, h]
theorem at0_eq {xs : List Int} {i : Nat} (h : i < xs.length) : at0 xs i = xs[i] := getD_at h

/-- How wide the table is. -/
def wid (xss : List (Bool × List Int)) : Nat := (xss.headD (true, [])).2.length
theorem wid_eq {xss : List (Bool × List Int)} (h : 0 < xss.length) : xss[0].2.length = wid xss := by
  cases xss with
  | nil => simp at h
  | cons x l => rfl
theorem rect_pos {xss : List (Bool × List Int)} {a b c : Int} (h : rectB xss a b c = true) : 0 < xss.length := by
  cases xss with
  | nil => simp [rectB] at h
  | cons x l => simp
theorem rect_len {xss : List (Bool × List Int)} {a b c : Int} (h : rectB xss a b c = true) : (xss.length : Int) ≤ a ∧ (wid xss : Int) ≤ b ∧ 1 ≤ wid xss := by
  cases xss with
  | nil => simp [rectB] at h
  | cons x l => simp [rectB, inR, wid] at h ⊢; omega
theorem rect_row {xss : List (Bool × List Int)} {a b c : Int} (h : rectB xss a b c = true) {i : Nat} (hi : i < xss.length) : xss[i].2.length = wid xss ∧ ∀ x ∈ xss[i].2, 0 ≤ x ∧ x ≤ c := by
  cases xss with
  | nil => simp at hi
  | cons r l =>
    simp only [rectB, Bool.and_eq_true, List.all_eq_true] at h
    have := h.2 _ (List.getElem_mem hi)
    simp only [rowIs, Bool.and_eq_true, decide_eq_true_eq, List.all_eq_true, inR] at this
    exact this

/-- Entry k of row i. -/
def ent (xss : List (Bool × List Int)) (i : Nat) (k : Int) : Int := (xss.getD i (true, [])).2.getD k.toNat 0
theorem ent_at {xss : List (Bool × List Int)} {i : Nat} (hi : i < xss.length) {k : Nat} (hk : k < xss[i].2.length) : ent xss i k = xss[i].2[k] := by
  unfold ent; simp [List.getD_eq_getElem?_getD, hi, hk]
theorem ent_bd {xss : List (Bool × List Int)} {a b c : Int} (h : rectB xss a b c = true) {i : Nat} (hi : i < xss.length) {k : Nat} (hk : k < wid xss) : 0 ≤ ent xss i k ∧ ent xss i k ≤ c := by
  have := rect_row h hi
  rw [ent_at hi (by omega)]
  exact this.2 _ (List.getElem_mem _)

def awardB (xss : List (Bool × List Int)) (aw : List Int) : Bool := rectB xss 4 4 1000 && decide (aw.length = xss.length) && allIn (-1) (wid xss - 1) aw && isAwd aw

def awOkAt (xss : List (Bool × List Int)) (aw : List Int) (i : Nat) : Bool := inR (-1) (wid xss - 1) (aw.getD i 0) && awAt aw i
theorem awOkAt_def {xss : List (Bool × List Int)} {aw : List Int} : awOkAt xss aw = fun i => inR (-1) (wid xss - 1) (aw.getD i 0) && awAt aw i := rfl

noncomputable def mAwardOk : List AV → Option AV := mk (fun _ => True) (fun (p : (Bool) × (List (Bool × List Int)) × (Bool) × (List Int)) => [intss p.1 p.2.1, ints p.2.2.1 p.2.2.2]) (fun p => bool (awardB p.2.1 p.2.2.2))
theorem mAwardOk_at (nl : Bool) (xss : List (Bool × List Int)) (nl' : Bool) (aw : List Int) : mAwardOk [.sl nl 1 (xss.map row), .sl nl' 1 (aw.map int)] = some (.v (.bool (awardB xss aw))) :=
  mk_eq (enc := fun (p : (Bool) × (List (Bool × List Int)) × (Bool) × (List Int)) => [intss p.1 p.2.1, ints p.2.2.1 p.2.2.2]) (x := (nl, xss, nl', aw)) (by rintro ⟨a0, a1, a2, a3⟩ ⟨b0, b1, b2, b3⟩ h; simp [ints, intss, int, bool, row, frac, fracs, map_int_inj, map_row_inj, frac_inj, map_frac_inj] at h; simp [h]) trivial

end Go.Proofs.YtiieikknhheffaaDoor.Ax
