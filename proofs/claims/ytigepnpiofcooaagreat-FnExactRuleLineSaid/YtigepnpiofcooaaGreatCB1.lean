/-
  What this seat's program says of the types that the proofs meet. No condition.
-/
import Derived.Test.YtigepnpiofcooaaGreatCK4
import Derived.Test.YtigepnpiofcooaaGreatProg
import Derived.Test.YtigepnpiofcooaaGreatRows
namespace Go.Proofs.YtigepnpiofcooaaGreat.Ax
open Go Go.RowKit
theorem ty2 : tyOf Tryz.prog 2 = some ({ desc := TypeDesc.int IntKind.i64, size := 1, bytes := 8, zero := Value.int IntKind.i64 0 } : TI) := by kernel_rfl
theorem ty3 : tyOf Tryz.prog 3 = some ({ desc := TypeDesc.int IntKind.i64, size := 1, bytes := 8, zero := Value.int IntKind.i64 0 } : TI) := by kernel_rfl
theorem ty4 : tyOf Tryz.prog 4 = some ({ desc := TypeDesc.bool, size := 1, bytes := 1, zero := Value.bool false } : TI) := by kernel_rfl
theorem ty5 : tyOf Tryz.prog 5 = some ({ desc := TypeDesc.int IntKind.u8, size := 1, bytes := 1, zero := Value.int IntKind.u8 0 } : TI) := by kernel_rfl
theorem ty9 : tyOf Tryz.prog 9 = some ({ desc := TypeDesc.string, size := 1, bytes := 16, zero := Value.string ⟨#[]⟩ } : TI) := by kernel_rfl
theorem ty12 : tyOf Tryz.prog 12 = some ({ desc := TypeDesc.int IntKind.u64, size := 1, bytes := 8, zero := Value.int IntKind.u64 0 } : TI) := by kernel_rfl
theorem ty21 : tyOf Tryz.prog 21 = some ({ desc := TypeDesc.int IntKind.i32, size := 1, bytes := 4, zero := Value.int IntKind.i32 0 } : TI) := by kernel_rfl
theorem ty22 : tyOf Tryz.prog 22 = some ({ desc := TypeDesc.slice 42, size := 1, bytes := 24, zero := Value.slice none 0 0 } : TI) := by kernel_rfl
theorem ty23 : tyOf Tryz.prog 23 = some ({ desc := TypeDesc.struct #[{ name := "Size", type := 3, offset := 0, embedded := false, tag := "", pkgPath := "", byteOffset := 0 }, { name := "Votes", type := 22, offset := 1, embedded := false, tag := "", pkgPath := "", byteOffset := 8 }], size := 2, bytes := 32, zero := Value.agg #[Value.int IntKind.i64 0, Value.slice none 0 0] } : TI) := by kernel_rfl
theorem ty24 : tyOf Tryz.prog 24 = some ({ desc := TypeDesc.struct #[{ name := "Size", type := 3, offset := 0, embedded := false, tag := "", pkgPath := "", byteOffset := 0 }, { name := "Votes", type := 22, offset := 1, embedded := false, tag := "", pkgPath := "", byteOffset := 8 }], size := 2, bytes := 32, zero := Value.agg #[Value.int IntKind.i64 0, Value.slice none 0 0] } : TI) := by kernel_rfl
theorem ty27 : tyOf Tryz.prog 27 = some ({ desc := TypeDesc.slice 44, size := 1, bytes := 24, zero := Value.slice none 0 0 } : TI) := by kernel_rfl
theorem ty28 : tyOf Tryz.prog 28 = some ({ desc := TypeDesc.struct #[{ name := "Size", type := 3, offset := 0, embedded := false, tag := "", pkgPath := "", byteOffset := 0 }, { name := "Votes", type := 27, offset := 1, embedded := false, tag := "", pkgPath := "", byteOffset := 8 }], size := 2, bytes := 32, zero := Value.agg #[Value.int IntKind.i64 0, Value.slice none 0 0] } : TI) := by kernel_rfl
theorem ty29 : tyOf Tryz.prog 29 = some ({ desc := TypeDesc.struct #[{ name := "Size", type := 3, offset := 0, embedded := false, tag := "", pkgPath := "", byteOffset := 0 }, { name := "Votes", type := 27, offset := 1, embedded := false, tag := "", pkgPath := "", byteOffset := 8 }], size := 2, bytes := 32, zero := Value.agg #[Value.int IntKind.i64 0, Value.slice none 0 0] } : TI) := by kernel_rfl
theorem ty34 : tyOf Tryz.prog 34 = some ({ desc := TypeDesc.slice 3, size := 1, bytes := 24, zero := Value.slice none 0 0 } : TI) := by kernel_rfl
theorem ty38 : tyOf Tryz.prog 38 = some ({ desc := TypeDesc.slice 5, size := 1, bytes := 24, zero := Value.slice none 0 0 } : TI) := by kernel_rfl
theorem ty41 : tyOf Tryz.prog 41 = some ({ desc := TypeDesc.struct #[{ name := "Ranking", type := 34, offset := 0, embedded := false, tag := "", pkgPath := "", byteOffset := 0 }, { name := "Count", type := 3, offset := 1, embedded := false, tag := "", pkgPath := "", byteOffset := 24 }], size := 2, bytes := 32, zero := Value.agg #[Value.slice none 0 0, Value.int IntKind.i64 0] } : TI) := by kernel_rfl
theorem ty42 : tyOf Tryz.prog 42 = some ({ desc := TypeDesc.struct #[{ name := "Ranking", type := 34, offset := 0, embedded := false, tag := "", pkgPath := "", byteOffset := 0 }, { name := "Count", type := 3, offset := 1, embedded := false, tag := "", pkgPath := "", byteOffset := 24 }], size := 2, bytes := 32, zero := Value.agg #[Value.slice none 0 0, Value.int IntKind.i64 0] } : TI) := by kernel_rfl
theorem ty44 : tyOf Tryz.prog 44 = some ({ desc := TypeDesc.struct #[{ name := "Ranking", type := 34, offset := 0, embedded := false, tag := "", pkgPath := "", byteOffset := 0 }, { name := "Count", type := 3, offset := 1, embedded := false, tag := "", pkgPath := "", byteOffset := 24 }], size := 2, bytes := 32, zero := Value.agg #[Value.slice none 0 0, Value.int IntKind.i64 0] } : TI) := by kernel_rfl
theorem ty64 : tyOf Tryz.prog 64 = some ({ desc := TypeDesc.slice 34, size := 1, bytes := 24, zero := Value.slice none 0 0 } : TI) := by kernel_rfl
theorem ty77 : tyOf Tryz.prog 77 = some ({ desc := TypeDesc.slice 4, size := 1, bytes := 24, zero := Value.slice none 0 0 } : TI) := by kernel_rfl
theorem ty87 : tyOf Tryz.prog 87 = some ({ desc := TypeDesc.int IntKind.u64, size := 1, bytes := 8, zero := Value.int IntKind.u64 0 } : TI) := by kernel_rfl
theorem ty101 : tyOf Tryz.prog 101 = some ({ desc := TypeDesc.int IntKind.u32, size := 1, bytes := 4, zero := Value.int IntKind.u32 0 } : TI) := by kernel_rfl
theorem ty104 : tyOf Tryz.prog 104 = some ({ desc := TypeDesc.int IntKind.u64, size := 1, bytes := 8, zero := Value.int IntKind.u64 0 } : TI) := by kernel_rfl
theorem ty122 : tyOf Tryz.prog 122 = some ({ desc := TypeDesc.array 0 16, size := 0, bytes := 0, zero := Value.agg #[] } : TI) := by kernel_rfl
theorem ty132 : tyOf Tryz.prog 132 = some ({ desc := TypeDesc.struct #[{ name := "Size_", type := 12, offset := 0, embedded := false, tag := "", pkgPath := "", byteOffset := 0 }, { name := "PtrBytes", type := 12, offset := 1, embedded := false, tag := "", pkgPath := "", byteOffset := 8 }, { name := "Hash", type := 101, offset := 2, embedded := false, tag := "", pkgPath := "", byteOffset := 16 }, { name := "TFlag", type := 126, offset := 3, embedded := false, tag := "", pkgPath := "", byteOffset := 20 }, { name := "Align_", type := 5, offset := 4, embedded := false, tag := "", pkgPath := "", byteOffset := 21 }, { name := "FieldAlign_", type := 5, offset := 5, embedded := false, tag := "", pkgPath := "", byteOffset := 22 }, { name := "Kind_", type := 127, offset := 6, embedded := false, tag := "", pkgPath := "", byteOffset := 23 }, { name := "Equal", type := 128, offset := 7, embedded := false, tag := "", pkgPath := "", byteOffset := 24 }, { name := "GCData", type := 129, offset := 8, embedded := false, tag := "", pkgPath := "", byteOffset := 32 }, { name := "Str", type := 130, offset := 9, embedded := false, tag := "", pkgPath := "", byteOffset := 40 }, { name := "PtrToThis", type := 131, offset := 10, embedded := false, tag := "", pkgPath := "", byteOffset := 44 }], size := 11, bytes := 48, zero := Value.agg #[Value.int IntKind.u64 0, Value.int IntKind.u64 0, Value.int IntKind.u32 0, Value.int IntKind.u8 0, Value.int IntKind.u8 0, Value.int IntKind.u8 0, Value.int IntKind.u8 0, Value.nilFunc, Value.pointer none, Value.int IntKind.i32 0, Value.int IntKind.i32 0] } : TI) := by kernel_rfl
def eqT : TypeId → Option Nat := fun _ => none
theorem eqOk : ∀ t n, eqT t = some n → EqOk Tryz.prog t n := fun _ _ h => by simp [eqT] at h
attribute [simp] awp_skip awp_seq awp_block awp_exit awp_ret awp_loop awp_rangeF awp_region awp_cond contS_normal contS_exit contS_ret inB_normal inB_exit inB_ret loopS_normal loopS_exit loopS_ret doneS_normal doneS_ret regS_some condS_bool bindS_some rrun_nil rrun_cons outD_some stepG_some rstep_eq callOut_some callOut_none mutCall_none movCall_none frzCall_none frzCall_some alt_none alt_some regrun_false regrun_true noLd_dt mkLd_dt frzLd_dt ldR_dt dtGet rdraw_eq rrunD_nil rrunD_cons contD_eq rstepD_eq outDr_some outC_zero outC_succ needs chk stR opR jk jkL meets appO appU upX shf nums sets Op.operands Call.operands noM_mk callV_fn aop_call take_map_all guardOk aop ev putD ofV ofV1 Value.oneCell' asNat abin aun pickAV scal frz nilS nilC TypeDesc.aggB AV.cells lenAV getAt loadCell loadCells res resL intern internL putCells ownR ownRL ownV ownA wholeB wholeP isAgg1 drops flat kill killL killN killNL clean keep refsL refs once place renL ren ctx G resOk resVars resVar pack viewEs bndOf appX appY ty2 ty3 ty4 ty5 ty9 ty12 ty21 ty22 ty23 ty24 ty27 ty28 ty29 ty34 ty38 ty41 ty42 ty44 ty64 ty77 ty87 ty101 ty104 ty122 ty132 eqT cellInts bld partOk nilAV bytesOf regS_ite allS_map allS_v allS_rep pickAV_bool nn1 tn1 nz1 nz1' lt1 sub slotsLe rngS_normal rngS_exit rngS_ret ctxV ctxH GH GM GV doneF_normal doneF_ret resVarsF resVarF mutCall movCall others setAt setCell ctxM resM doneM_normal doneM_ret
theorem mixed : Tryz.prog.follows .mixedOrders = true := by kernel_rfl
end Go.Proofs.YtigepnpiofcooaaGreat.Ax
namespace Go.Proofs.YtigepnpiofcooaaGreat.Ax
open Go Go.RowKit
def mWithin : List AV → Option AV
  | [.v (.int .i64 n), .v (.int .i64 lo), .v (.int .i64 hi)] => some (.v (.bool (decide (lo ≤ n) && decide (n ≤ hi))))
  | _ => none
set_option linter.unusedSimpArgs false
set_option maxHeartbeats 400000 in
theorem within_ok : FnOk Tryz.prog 57 mWithin := by
  intro args r h
  unfold mWithin at h
  split at h
  · rename_i n lo hi
    simp only [Option.some.injEq] at h; subst h
    refine callOk_of_awp (ctx_ok eqOk .nil) mixed (live := [true, true, true, false, false, false, true]) (dt := []) Tryz.func57 rfl (by kernel_rfl) (by kernel_rfl) fun w0 => ?_
    by_cases h : lo ≤ n
    · simp [Tryz.f57, List.range, List.range.loop, h]
    · simp [Tryz.f57, List.range, List.range.loop, h]
  · simp at h
theorem lens_ints {nl : Bool} {xs : List Int} : lens (.sl nl 1 (xs.map int)) ↔ xs.length ≤ 9223372036854775807 ∧ (nl = true → xs = []) := by
  simp [lens, lensL_map, int]
end Go.Proofs.YtigepnpiofcooaaGreat.Ax
namespace Go.Proofs.YtigepnpiofcooaaGreat.Ax
open Go Go.RowKit
set_option linter.unusedSimpArgs false
set_option maxHeartbeats 400000 in
theorem l01In_ok : FnOk Tryz.prog 38 mWithin := by
  intro args r h
  unfold mWithin at h
  split at h
  · rename_i n lo hi
    simp only [Option.some.injEq] at h; subst h
    refine callOk_of_awp (ctx_ok eqOk .nil) mixed (live := [true, true, true, false, false, false, true]) (dt := []) Tryz.func38 rfl (by kernel_rfl) (by kernel_rfl) fun w0 => ?_
    by_cases h : lo ≤ n
    · simp [Tryz.f38, List.range, List.range.loop, h]
    · simp [Tryz.f38, List.range, List.range.loop, h]
  · simp at h
def frac (f : Int × Int) : AV := .agg [.v (.int .i64 f.1), .v (.int .i64 f.2)]
def fracs (nl : Bool) (xs : List (Int × Int)) : AV := .sl nl 2 (xs.map frac)
theorem frac_inj {a b : Int × Int} : frac a = frac b ↔ a = b := by
  obtain ⟨a, a'⟩ := a; obtain ⟨b, b'⟩ := b; simp [frac]
theorem map_frac_inj {a b : List (Int × Int)} : a.map frac = b.map frac ↔ a = b := by
  constructor
  · intro h; exact (List.map_inj_right (fun x y => frac_inj.1)).1 h
  · rintro rfl; rfl
def fracOk (f : Int × Int) : Bool := (decide (-1000000000 ≤ f.1) && decide (f.1 ≤ 1000000000)) && (decide (1 ≤ f.2) && decide (f.2 ≤ 1000000000)) && decide (Int.gcd f.1 f.2 = 1)
end Go.Proofs.YtigepnpiofcooaaGreat.Ax
namespace Go.Proofs.YtigepnpiofcooaaGreat.Ax
open Go Go.RowKit
set_option linter.unusedSimpArgs false
def filled {α : Type} (f : α → AV) (z : AV) (xs : List α) (k : Nat) : List AV := (xs.take k).map f ++ List.replicate (xs.length - k) z
section
variable {α : Type} {f : α → AV} {z : AV} {xs : List α} {k : Nat}
theorem filled_len (h : k ≤ xs.length) : (filled f z xs k).length = xs.length := by simp [filled]; omega
theorem filled_get (h : k < xs.length) : (filled f z xs k)[k]? = some z := by
  unfold filled
  rw [List.getElem?_append_right (by simp; omega), List.getElem?_replicate]
  have h1 : ((xs.take k).map f).length = k := by simp; omega
  rw [h1, if_pos (by omega)]
theorem filled_get' (h : k < xs.length) (hh : k < (filled f z xs k).length) : (filled f z xs k)[k] = z := by
  have := filled_get (f := f) (z := z) h
  rw [List.getElem?_eq_getElem hh] at this
  exact Option.some.inj this
theorem filled_set (h : k < xs.length) : (filled f z xs k).set k (f xs[k]) = filled f z xs (k + 1) := by
  unfold filled
  rw [List.take_succ_eq_append_getElem h, List.map_append, List.set_append]
  have hl : ((xs.take k).map f).length = k := by simp; omega
  rw [if_neg (by omega), hl, Nat.sub_self]
  obtain ⟨m, hm⟩ : ∃ m, xs.length - k = m + 1 := ⟨xs.length - k - 1, by omega⟩
  rw [hm, List.replicate_succ, show xs.length - (k + 1) = m by omega]
  simp
theorem filled_zero : filled f z xs 0 = List.replicate xs.length z := by simp [filled]
theorem filled_all : filled f z xs xs.length = xs.map f := by simp [filled]
end
theorem take_eq_succ {α : Type} {xs ys : List α} {k : Nat} (h1 : k < xs.length) (h2 : k < ys.length) : xs.take (k + 1) = ys.take (k + 1) ↔ xs.take k = ys.take k ∧ xs[k] = ys[k] := by
  rw [List.take_succ_eq_append_getElem h1, List.take_succ_eq_append_getElem h2]
  constructor
  · intro h
    have := List.append_inj h (by simp; omega)
    simpa using this
  · rintro ⟨h, h'⟩; rw [h, h']
end Go.Proofs.YtigepnpiofcooaaGreat.Ax
namespace Go.Proofs.YtigepnpiofcooaaGreat.Ax
open Go Go.RowKit
theorem datInts {a : AV} (h : DatE Tryz.prog 34 a) : ∃ nl xs, a = ints nl xs ∧ xs.length ≤ maxLen ∧ ∀ x ∈ xs, (Lit.int .i64 x).wf = true :=
  h.ints Tryz.underlying34 Tryz.underlying3 (by kernel_rfl)
end Go.Proofs.YtigepnpiofcooaaGreat.Ax
namespace Go.Proofs.YtigepnpiofcooaaGreat.Ax
open Go Go.RowKit
set_option linter.unusedSimpArgs false
noncomputable def mToIs : List AV → Option AV := mk (fun p => p.2.length ≤ 2 ^ 40) (fun (p : Bool × List Int) => [ints p.1 p.2]) (fun p => ints false p.2)
theorem mToIs_at (nl : Bool) (xs : List Int) (h : xs.length ≤ 2 ^ 40) : mToIs [.sl nl 1 (xs.map int)] = some (.sl false 1 (xs.map int)) :=
  mk_eq (enc := fun (p : Bool × List Int) => [ints p.1 p.2]) (x := (nl, xs)) (by rintro ⟨x, x'⟩ ⟨y, y'⟩ h; simp [ints, map_int_inj] at h; simp [h]) h
set_option maxHeartbeats 1000000 in
theorem toIntS_ok : FnOk Tryz.prog 56 mToIs := by
  refine mk_ok fun ⟨nl, xs⟩ hpre => ?_
  simp only at hpre
  refine callOk_of_awp (ctx_ok eqOk .nil) mixed (live := [true, false, true, true, true, false, false, false, false, false, false, true]) (dt := []) Tryz.func56 rfl (by kernel_rfl) (by kernel_rfl) fun w0 => ?_
  have hb : 8 * xs.length ≤ 281474976710656 := by omega
  have hn : xs.length ≤ 4611686018427387904 := by omega
  simp [Tryz.f56, List.range, List.range.loop, ints, hb, hn]
  refine awp_loop_of (ctx_ok eqOk .nil) mixed (live := [true, false, true, true, true, false, false, false, false, false, false, true]) [true, false, true, true, true] (α := {k : Nat // k ≤ xs.length})
    (fun k => ⟨[ints nl xs, .junk, .sl true 1 [], .ref 0 [] 0 xs.length, int k.1] ++ List.replicate 17 .junk, [⟨true, .sl false 1 (filled int (int 0) xs k.1)⟩]⟩) (fun k => xs.length - k.1) ⟨0, by omega⟩
    (by simp [sub, slotsLe, clean, keep, refsL, refs, once, place, renL, ren, List.replicate, int, bool, ints, filled_zero]) ?_
  rintro ⟨k, hk⟩
  by_cases h : k < xs.length
  · have hl := filled_len (f := int) (z := AV.v (.int .i64 0)) hk
    have hg := filled_get (f := int) (z := AV.v (.int .i64 0)) h
    have hg' := filled_get' (f := int) (z := AV.v (.int .i64 0)) h
    simp [List.range, List.range.loop, ints, int, h, List.replicate, hl, hg, hg']
    refine ⟨⟨k + 1, h⟩, ?_, by simp; omega⟩
    have hset := filled_set (f := int) (z := AV.v (.int .i64 0)) h
    simp only [int] at hset
    simp [sub, slotsLe, clean, keep, refsL, refs, once, place, renL, ren, List.replicate, int, bool, ints, hset, hl]
    exact wrapI (by omega) (by omega)
  · have hk' : k = xs.length := by omega
    subst hk'
    simp [List.range, List.range.loop, ints, int, h, List.replicate, filled_all]
noncomputable def mSzI : List AV → Option AV := mk (fun p => p.2.1.length < 2 ^ 63 ∧ 0 ≤ p.2.2 ∧ p.2.2 ≤ 2 ^ 62) (fun (p : Bool × List Int × Int) => [ints p.1 p.2.1, int p.2.2]) (fun p => int (if p.2.2 < p.2.1.length then -1 else p.2.2 - p.2.1.length))
theorem mSzI_at (nl : Bool) (xs : List Int) (l : Int) (h : xs.length < 2 ^ 63) (h1 : 0 ≤ l) (h2 : l ≤ 2 ^ 62) : mSzI [.sl nl 1 (xs.map int), .v (.int .i64 l)] = some (.v (.int .i64 (if l < xs.length then -1 else l - xs.length))) :=
  mk_eq (enc := fun (p : Bool × List Int × Int) => [ints p.1 p.2.1, int p.2.2]) (x := (nl, xs, l)) (by rintro ⟨x, x', x''⟩ ⟨y, y', y''⟩ h; simp [ints, int_inj, map_int_inj] at h; simp [h]) ⟨h, h1, h2⟩
theorem szIntS_ok : FnOk Tryz.prog 37 mSzI := by
  refine mk_ok fun ⟨nl, xs, l⟩ ⟨h1, h2, h3⟩ => ?_
  simp only at h1 h2 h3
  refine callOk_of_awp (ctx_ok eqOk .nil) mixed (live := [true, true, false, false, true, false, false, false, false, false, true]) (dt := []) Tryz.func37 rfl (by kernel_rfl) (by kernel_rfl) fun w0 => ?_
  have hw : IntKind.i64.wrap (l - xs.length) = l - xs.length := wrapI (by omega) (by omega)
  by_cases h : l < xs.length
  · have h' : l - xs.length < 0 := by omega
    simp [Tryz.f37, List.range, List.range.loop, ints, int, hw, h, h']
  · have h' : ¬ l - xs.length < 0 := by omega
    simp [Tryz.f37, List.range, List.range.loop, ints, int, hw, h, h']
noncomputable def mEqIs : List AV → Option AV := mk (fun p => p.1.2.length ≤ 2 ^ 40 ∧ p.2.2.length ≤ 2 ^ 40) (fun (p : (Bool × List Int) × (Bool × List Int)) => [ints p.1.1 p.1.2, ints p.2.1 p.2.2]) (fun p => bool (decide (p.1.2 = p.2.2)))
theorem mEqIs_at (nl nl' : Bool) (xs ys : List Int) (h : xs.length ≤ 2 ^ 40) (h' : ys.length ≤ 2 ^ 40) : mEqIs [.sl nl 1 (xs.map int), .sl nl' 1 (ys.map int)] = some (.v (.bool (decide (xs = ys)))) :=
  mk_eq (enc := fun (p : (Bool × List Int) × (Bool × List Int)) => [ints p.1.1 p.1.2, ints p.2.1 p.2.2]) (x := ((nl, xs), (nl', ys))) (by rintro ⟨⟨x, x'⟩, ⟨x'', x3⟩⟩ ⟨⟨y, y'⟩, ⟨y'', y3⟩⟩ h; simp [ints, map_int_inj] at h; simp [h]) ⟨h, h'⟩
set_option maxHeartbeats 1000000 in
theorem eqIntS_ok : FnOk Tryz.prog 96 mEqIs := by
  refine mk_ok fun ⟨⟨nl, xs⟩, ⟨nl', ys⟩⟩ ⟨hp, hp'⟩ => ?_
  simp only at hp hp'
  refine callOk_of_awp (ctx_ok eqOk .nil) mixed (live := [true, true, false, false, true, true, false, false, false, false, true, false, false, false, true, false, false, false, false, false, false, false, false, false, false, true]) (dt := [(6, ⟨[], [], []⟩)]) Tryz.func96 rfl (by kernel_rfl) (by kernel_rfl) fun w0 => ?_
  by_cases hl : xs.length = ys.length
  · simp [Tryz.f96, List.range, List.range.loop, ints, hl]
    refine awp_loop_of (ctx_ok eqOk .nil) mixed (live := [true, true, false, false, true, true, false, false, false, false, true, false, false, false, true, false, false, false, false, false, false, false, false, false, false, true]) [true, true, false, false, true, true] (α := {k : Nat // k ≤ ys.length ∧ xs.take k = ys.take k})
      (fun k => ⟨[ints nl xs, ints nl' ys, .junk, .junk, bool false, int k.1] ++ List.replicate 20 .junk, []⟩) (fun k => ys.length - k.1) ⟨0, by omega, by simp⟩
      (by simp [sub, slotsLe, clean, keep, refsL, refs, once, place, renL, ren, List.replicate, int, bool, ints]) ?_
    rintro ⟨k, hk, he⟩
    by_cases h : k < ys.length
    · have h' : k < xs.length := by omega
      by_cases hx : xs[k] = ys[k]
      · simp [List.range, List.range.loop, ints, int, bool, h, h', hl, List.replicate, hx]
        refine ⟨⟨k + 1, h, (take_eq_succ h' h).2 ⟨he, hx⟩⟩, ?_, by simp; omega⟩
        simp [sub, slotsLe, clean, keep, refsL, refs, once, place, renL, ren, List.replicate, int, bool, ints]
        exact wrapI (by omega) (by omega)
      · have hx' : (xs[k] != ys[k]) = true := by simpa using hx
        simp [List.range, List.range.loop, ints, int, bool, h, h', hl, List.replicate, hx, hx']
        intro e; subst e; exact hx rfl
    · have hk' : k = ys.length := by omega
      subst hk'
      simp [List.range, List.range.loop, ints, int, bool, h, hl, List.replicate]
      rw [List.take_of_length_le (by omega), List.take_of_length_le (by omega)] at he
      exact he
  · have hl' : ((xs.length : Int) != ys.length) = true := by simp; omega
    simp [Tryz.f96, List.range, List.range.loop, ints, hl, hl', bool]
    intro e; rw [e] at hl; exact hl rfl
end Go.Proofs.YtigepnpiofcooaaGreat.Ax
namespace Go.Proofs.YtigepnpiofcooaaGreat.Ax
open Go Go.RowKit
set_option linter.unusedSimpArgs false
def row (p : Bool × List Int) : AV := .sl p.1 1 (p.2.map int)
def intss (nl : Bool) (xss : List (Bool × List Int)) : AV := .sl nl 1 (xss.map row)
theorem row_inj {p q : Bool × List Int} : row p = row q ↔ p = q := by
  obtain ⟨a, b⟩ := p; obtain ⟨c, d⟩ := q
  simp [row, map_int_inj]
theorem map_row_inj {a b : List (Bool × List Int)} : a.map row = b.map row ↔ a = b :=
  ⟨fun h => (List.map_inj_right (fun x y => row_inj.1)).1 h, fun h => by rw [h]⟩
theorem lens_intss {nl : Bool} {xss : List (Bool × List Int)} : lens (.sl nl 1 (xss.map row)) ↔ (xss.length ≤ 9223372036854775807 ∧ (nl = true → xss = [])) ∧ ∀ x ∈ xss, x.2.length ≤ 9223372036854775807 ∧ (x.1 = true → x.2 = []) := by
  simp only [lens, lensL_map, row, List.length_map, List.map_eq_nil_iff, lens_ints]
def rowSum (xss : List (Bool × List Int)) (k : Nat) : Nat := ((xss.take k).map (·.2.length)).sum
theorem rowSum_zero {xss : List (Bool × List Int)} : rowSum xss 0 = 0 := by simp [rowSum]
theorem rowSum_succ {xss : List (Bool × List Int)} {k : Nat} (h : k < xss.length) : rowSum xss (k + 1) = rowSum xss k + xss[k].2.length := by
  unfold rowSum; rw [List.take_succ_eq_append_getElem h]; simp only [List.map_append, List.sum_append, List.map_cons, List.map_nil, List.sum_cons, List.sum_nil, Nat.add_zero]
theorem rowSum_mono {xss : List (Bool × List Int)} {k n : Nat} (h : k ≤ n) : rowSum xss k ≤ rowSum xss n := by
  induction n with
  | zero => obtain rfl : k = 0 := by omega
            exact Nat.le_refl _
  | succ n ih =>
    by_cases e : k = n + 1
    · rw [e]; exact Nat.le_refl _
    · refine Nat.le_trans (ih (by omega)) ?_
      by_cases hn : n < xss.length
      · rw [rowSum_succ hn]; omega
      · simp only [rowSum]; rw [List.take_of_length_le (by omega), List.take_of_length_le (by omega)]; exact Nat.le_refl _
def need (xss : List (Bool × List Int)) : Nat := xss.length + rowSum xss xss.length
def own (xss : List (Bool × List Int)) : List (Bool × List Int) := xss.map fun p => (false, p.2)
def small (xss : List (Bool × List Int)) : Prop := xss.length ≤ 2 ^ 40 ∧ ∀ x ∈ xss, x.2.length ≤ 2 ^ 40
end Go.Proofs.YtigepnpiofcooaaGreat.Ax
namespace Go.Proofs.YtigepnpiofcooaaGreat.Ax
open Go Go.RowKit
theorem ownP : ownKnob Tryz.prog.godebug = none := by kernel_rfl
theorem laidOutP : laidOutB Tryz.prog = true := by kernel_rfl
end Go.Proofs.YtigepnpiofcooaaGreat.Ax
namespace Go.Proofs.YtigepnpiofcooaaGreat.Ax
open Go Go.RowKit
set_option linter.unusedSimpArgs false
structure Pure (caps : List AV) : Prop where
  res : ∀ toks, resL toks caps = caps
  refs : refsL caps = []
  ren : ∀ f, renL f caps = caps
noncomputable def only (a : List AV) (r : AV) : List AV → Option AV := mk (fun _ : Unit => True) (fun _ => a) (fun _ => r)
theorem only_at {a : List AV} {r : AV} : only a r a = some r := mk_eq (enc := fun _ : Unit => a) (x := ()) (fun _ _ _ => rfl) trivial
theorem only_ok {P : Program} {f : FuncId} {a : List AV} {r : AV} (h : CallOk P f a r) : FnOk P f (only a r) := mk_ok fun _ _ => h
theorem as_model {P : Program} {f : FuncId} {a : List AV} {r : AV} (h : CallOk P f a r) : ∃ m, FnOk P f m ∧ m a = some r := ⟨only a r, only_ok h, only_at⟩
def idxOf {α : Type} (p : α → Bool) (xs : List α) : Int := (xs.findIdx? p).elim (-1) fun i => (i : Int)
theorem idxOf_found {α : Type} {p : α → Bool} {xs : List α} {k : Nat} (hk : k < xs.length) (h : ∀ j (hj : j < xs.length), j < k → p xs[j] = false) (hp : p xs[k] = true) : idxOf p xs = k := by
  have : xs.findIdx? p = some k := List.findIdx?_eq_some_iff_getElem.2 ⟨hk, hp, fun j hj => by rw [h j (by omega) hj]; simp⟩
  simp [idxOf, this]
theorem idxOf_none {α : Type} {p : α → Bool} {xs : List α} (h : ∀ j (hj : j < xs.length), j < xs.length → p xs[j] = false) : idxOf p xs = -1 := by
  have : xs.findIdx? p = none := List.findIdx?_eq_none_iff.2 fun x hx => by
    obtain ⟨i, hi, rfl⟩ := List.getElem_of_mem hx
    exact h i hi hi
  simp [idxOf, this]
theorem idxOf_nonneg {α : Type} {p : α → Bool} {xs : List α} : decide (0 ≤ idxOf p xs) = xs.any p := by
  unfold idxOf
  cases h : xs.findIdx? p with
  | none =>
    have := List.findIdx?_eq_none_iff.1 h
    simp
    exact this
  | some i =>
    obtain ⟨hi, hp, _⟩ := List.findIdx?_eq_some_iff_getElem.1 h
    simp
    exact ⟨_, List.getElem_mem hi, hp⟩
theorem ge_zero {x : Int} : decide (x ≥ 0) = decide (0 ≤ x) := rfl
set_option maxHeartbeats 1000000 in
theorem indexInts {g : FuncId} {caps : List AV} (hc : Pure caps) (p : Int → Bool) (nl : Bool) (xs : List (Int)) (hg : ∀ x ∈ xs, CallOk Tryz.prog g (.v (.int .i64 x) :: caps) (.v (.bool (p x)))) :
    CallOk Tryz.prog 87 [ints nl xs, .fn g caps] (int (idxOf p xs)) := by
  have hG : FnsOk Tryz.prog [(g, mk (fun x => x ∈ xs) (fun x : Int => .v (.int .i64 x) :: caps) (fun x => .v (.bool (p x))))] := .cons (mk_ok fun x hx => hg x hx) .nil
  have hat : ∀ k (h : k < xs.length), mk (fun x => x ∈ xs) (fun x : Int => (.v (.int .i64 x) : AV) :: caps) (fun x => AV.v (.bool (p x))) (.v (.int .i64 xs[k]) :: caps) = some (.v (.bool (p xs[k]))) := fun k h =>
    mk_eq (enc := fun x : Int => (.v (.int .i64 x) : AV) :: caps) (x := xs[k]) (by intro x y h; simp at h; simp [h]) (List.getElem_mem h)
  generalize hm : mk (fun x => x ∈ xs) (fun x : Int => (.v (.int .i64 x) : AV) :: caps) (fun x => AV.v (.bool (p x))) = m at hG hat
  try simp only [ints, int] at hat
  refine callOk_awp (ctx_ok eqOk hG) mixed (live := [true, true, false, false, true, true, false, true, true, true, false, false, false, false, false, false, true]) (dt := []) Tryz.func87 rfl (by kernel_rfl) (by kernel_rfl) fun w0 hlens => ?_
  have hlen : xs.length ≤ 9223372036854775807 := (lens_ints.1 hlens.1).1
  simp [Tryz.f87, List.range, List.range.loop, ints, int, hc.res, hc.refs, hc.ren]
  refine awp_loop_of (ctx_ok eqOk hG) mixed (live := [true, true, false, false, true, true, false, true, true, true, false, false, false, false, false, false, true]) [true, true, false, false, false, false, false, true, true] (α := {k : Nat // k ≤ xs.length ∧ ∀ j (hj : j < xs.length), j < k → p xs[j] = false})
    (fun k => ⟨[ints nl xs, .fn g caps, .junk, .junk, .junk, .junk, .junk, int xs.length, int k.1] ++ List.replicate 10 .junk, []⟩) (fun k => xs.length - k.1) ⟨0, by omega, by omega⟩
    (by simp [sub, slotsLe, clean, keep, refsL, refs, once, place, renL, ren, List.replicate, int, bool, ints, int, hc.refs, hc.ren]) ?_
  rintro ⟨k, hk, hno⟩
  by_cases h : k < xs.length
  · have hz := hat k h
    cases hp : p xs[k] with
    | true =>
      rw [hp] at hz
      simp [List.range, List.range.loop, ints, int, int, h, List.replicate, hc.res, hc.refs, hc.ren, hz, idxOf_found h hno hp]
    | false =>
      rw [hp] at hz
      simp [List.range, List.range.loop, ints, int, int, h, List.replicate, hc.res, hc.refs, hc.ren, hz]
      refine ⟨⟨k + 1, h, fun j hj hjk => ?_⟩, ?_, by simp; omega⟩
      · by_cases e : j = k
        · subst e; exact hp
        · exact hno j hj (by omega)
      simp [sub, slotsLe, clean, keep, refsL, refs, once, place, renL, ren, List.replicate, int, bool, ints, int, hc.refs, hc.ren]
      exact wrapI (by omega) (by omega)
  · have hk' : k = xs.length := by omega
    subst hk'
    simp [List.range, List.range.loop, ints, int, int, h, List.replicate, hc.res, hc.refs, hc.ren, idxOf_none hno]
set_option maxHeartbeats 1000000 in
theorem containsInts {g : FuncId} {caps : List AV} (hc : Pure caps) (p : Int → Bool) (nl : Bool) (xs : List (Int)) (hg : ∀ x ∈ xs, CallOk Tryz.prog g (.v (.int .i64 x) :: caps) (.v (.bool (p x)))) :
    CallOk Tryz.prog 122 [ints nl xs, .fn g caps] (bool (xs.any p)) := by
  have hG : FnsOk Tryz.prog [(87, only [.sl nl 1 (xs.map int), .fn g caps] (.v (.int .i64 (idxOf p xs))))] := .cons (only_ok (indexInts hc p nl xs hg)) .nil
  refine callOk_awp (ctx_ok eqOk hG) mixed (live := [true, true, false, false, true]) (dt := []) Tryz.func122 rfl (by kernel_rfl) (by kernel_rfl) fun w0 hlens => ?_
  simp [Tryz.f122, List.range, List.range.loop, ints, int, bool, hc.res, hc.refs, hc.ren, ge_zero, only_at, idxOf_nonneg]
set_option maxHeartbeats 1000000 in
theorem indexIntss {g : FuncId} {caps : List AV} (hc : Pure caps) (p : Bool × List Int → Bool) (nl : Bool) (xs : List (Bool × List Int)) (hg : ∀ x ∈ xs, CallOk Tryz.prog g (row x :: caps) (.v (.bool (p x)))) :
    CallOk Tryz.prog 131 [intss nl xs, .fn g caps] (int (idxOf p xs)) := by
  have hG : FnsOk Tryz.prog [(g, mk (fun x => x ∈ xs) (fun x : Bool × List Int => row x :: caps) (fun x => .v (.bool (p x))))] := .cons (mk_ok fun x hx => hg x hx) .nil
  have hat : ∀ k (h : k < xs.length), mk (fun x => x ∈ xs) (fun x : Bool × List Int => (row x : AV) :: caps) (fun x => AV.v (.bool (p x))) (row xs[k] :: caps) = some (.v (.bool (p xs[k]))) := fun k h =>
    mk_eq (enc := fun x : Bool × List Int => (row x : AV) :: caps) (x := xs[k]) (by intro x y h; simp [row_inj] at h; simp [h]) (List.getElem_mem h)
  generalize hm : mk (fun x => x ∈ xs) (fun x : Bool × List Int => (row x : AV) :: caps) (fun x => AV.v (.bool (p x))) = m at hG hat
  try simp only [intss, row] at hat
  refine callOk_awp (ctx_ok eqOk hG) mixed (live := [true, true, false, false, true, true, false, true, true, true, false, false, false, false, false, false, true]) (dt := []) Tryz.func131 rfl (by kernel_rfl) (by kernel_rfl) fun w0 hlens => ?_
  have hlen : xs.length ≤ 9223372036854775807 := (lens_intss.1 hlens.1).1.1
  simp [Tryz.f131, List.range, List.range.loop, intss, row, hc.res, hc.refs, hc.ren]
  refine awp_loop_of (ctx_ok eqOk hG) mixed (live := [true, true, false, false, true, true, false, true, true, true, false, false, false, false, false, false, true]) [true, true, false, false, false, false, false, true, true] (α := {k : Nat // k ≤ xs.length ∧ ∀ j (hj : j < xs.length), j < k → p xs[j] = false})
    (fun k => ⟨[intss nl xs, .fn g caps, .junk, .junk, .junk, .junk, .junk, int xs.length, int k.1] ++ List.replicate 10 .junk, []⟩) (fun k => xs.length - k.1) ⟨0, by omega, by omega⟩
    (by simp [sub, slotsLe, clean, keep, refsL, refs, once, place, renL, ren, List.replicate, int, bool, intss, row, hc.refs, hc.ren]) ?_
  rintro ⟨k, hk, hno⟩
  by_cases h : k < xs.length
  · have hz := hat k h
    cases hp : p xs[k] with
    | true =>
      rw [hp] at hz
      simp [List.range, List.range.loop, intss, row, int, h, List.replicate, hc.res, hc.refs, hc.ren, hz, idxOf_found h hno hp]
    | false =>
      rw [hp] at hz
      simp [List.range, List.range.loop, intss, row, int, h, List.replicate, hc.res, hc.refs, hc.ren, hz]
      refine ⟨⟨k + 1, h, fun j hj hjk => ?_⟩, ?_, by simp; omega⟩
      · by_cases e : j = k
        · subst e; exact hp
        · exact hno j hj (by omega)
      simp [sub, slotsLe, clean, keep, refsL, refs, once, place, renL, ren, List.replicate, int, bool, intss, row, hc.refs, hc.ren]
      exact wrapI (by omega) (by omega)
  · have hk' : k = xs.length := by omega
    subst hk'
    simp [List.range, List.range.loop, intss, row, int, h, List.replicate, hc.res, hc.refs, hc.ren, idxOf_none hno]
set_option maxHeartbeats 1000000 in
theorem containsIntss {g : FuncId} {caps : List AV} (hc : Pure caps) (p : Bool × List Int → Bool) (nl : Bool) (xs : List (Bool × List Int)) (hg : ∀ x ∈ xs, CallOk Tryz.prog g (row x :: caps) (.v (.bool (p x)))) :
    CallOk Tryz.prog 89 [intss nl xs, .fn g caps] (bool (xs.any p)) := by
  have hG : FnsOk Tryz.prog [(131, only [.sl nl 1 (xs.map row), .fn g caps] (.v (.int .i64 (idxOf p xs))))] := .cons (only_ok (indexIntss hc p nl xs hg)) .nil
  refine callOk_awp (ctx_ok eqOk hG) mixed (live := [true, true, false, false, true]) (dt := []) Tryz.func89 rfl (by kernel_rfl) (by kernel_rfl) fun w0 hlens => ?_
  simp [Tryz.f89, List.range, List.range.loop, intss, row, bool, hc.res, hc.refs, hc.ren, ge_zero, only_at, idxOf_nonneg]
end Go.Proofs.YtigepnpiofcooaaGreat.Ax
namespace Go.Proofs.YtigepnpiofcooaaGreat.Ax
open Go Go.RowKit
set_option linter.unusedSimpArgs false
def inR (lo hi x : Int) : Bool := decide (lo ≤ x) && decide (x ≤ hi)
theorem allWithin1 (x lo hi : Int) : CallOk Tryz.prog 159 [.v (.int .i64 x), .fp (.v (.int .i64 lo)) 0, .fp (.v (.int .i64 hi)) 0] (.v (.bool (!inR lo hi x))) := by
  have hG : FnsOk Tryz.prog [(57, mWithin)] := .cons within_ok .nil
  refine callOk_of_awp (ctx_ok eqOk hG) mixed (live := [true, true, true, false, true]) (dt := []) Tryz.func159 rfl (by kernel_rfl) (by kernel_rfl) fun w0 => ?_
  simp [Tryz.f159, List.range, List.range.loop, mWithin, inR]
noncomputable def mAllIn : List AV → Option AV := mk (fun _ => True) (fun (p : Bool × List Int × Int × Int) => [ints p.1 p.2.1, int p.2.2.1, int p.2.2.2]) (fun p => bool (p.2.1.all (inR p.2.2.1 p.2.2.2)))
theorem mAllIn_at (nl : Bool) (xs : List Int) (lo hi : Int) : mAllIn [.sl nl 1 (xs.map int), .v (.int .i64 lo), .v (.int .i64 hi)] = some (.v (.bool (xs.all (inR lo hi)))) :=
  mk_eq (enc := fun (p : Bool × List Int × Int × Int) => [ints p.1 p.2.1, int p.2.2.1, int p.2.2.2]) (x := (nl, xs, lo, hi)) (by rintro ⟨x, x', a, b⟩ ⟨y, y', c, d⟩ h; simp [ints, int_inj, map_int_inj] at h; simp [h]) trivial
theorem not_any_not {α : Type} {p : α → Bool} {xs : List α} : (!xs.any fun x => !p x) = xs.all p := by
  induction xs with
  | nil => rfl
  | cons x xs ih => simp only [List.any_cons, List.all_cons, Bool.not_or, Bool.not_not, ih]
theorem pure_fp {a : AV} {j : Nat} {l : List AV} (h : Pure l) : Pure (.fp a j :: l) := ⟨fun t => by simp [resL, res, h.res], by simp [refsL, refs, h.refs], fun f => by simp [renL, ren, h.ren]⟩
theorem pure_nil : Pure [] := ⟨fun t => by simp [resL], by simp [refsL], fun f => by simp [renL]⟩
theorem allWithin_ok : FnOk Tryz.prog 144 mAllIn := by
  refine mk_ok fun ⟨nl, xs, lo, hi⟩ _ => ?_
  have hc := containsInts (g := 159) (pure_fp (a := .v (.int .i64 lo)) (j := 0) (pure_fp (a := .v (.int .i64 hi)) (j := 0) pure_nil)) (fun x => !inR lo hi x) nl xs (fun x _ => allWithin1 x lo hi)
  have hG : FnsOk Tryz.prog [(122, only _ _)] := .cons (only_ok hc) .nil
  refine callOk_of_awp (ctx_ok eqOk hG) mixed (live := [true, true, true, false, true, true, true]) (dt := []) Tryz.func144 rfl (by kernel_rfl) (by kernel_rfl) fun w0 => ?_
  have ha := only_at (a := [ints nl xs, .fn 159 [.fp (.v (.int .i64 lo)) 0, .fp (.v (.int .i64 hi)) 0]]) (r := bool (xs.any fun x => !inR lo hi x))
  simp only [ints, bool] at ha
  simp [Tryz.f144, List.range, List.range.loop, ints, int, bool, ha, not_any_not]
def rowIs (n : Nat) (most : Int) (r : Bool × List Int) : Bool := decide (r.2.length = n) && r.2.all (inR 0 most)
def rectB (xss : List (Bool × List Int)) (high wide most : Int) : Bool := match xss with
  | [] => false
  | r0 :: _ => inR 1 high xss.length && inR 1 wide r0.2.length && xss.all (rowIs r0.2.length most)
end Go.Proofs.YtigepnpiofcooaaGreat.Ax
namespace Go.Proofs.YtigepnpiofcooaaGreat.Ax
open Go Go.RowKit
set_option linter.unusedSimpArgs false
theorem need_small {xss : List (Bool × List Int)} (h : need xss ≤ 1048576) : small xss := by
  simp only [need] at h
  refine ⟨by omega, fun x hx => ?_⟩
  obtain ⟨i, hi, rfl⟩ := List.getElem_of_mem hx
  have h1 := rowSum_succ hi
  have h2 := rowSum_mono (xss := xss) (show i + 1 ≤ xss.length from hi)
  omega
end Go.Proofs.YtigepnpiofcooaaGreat.Ax
namespace Go.Proofs.YtigepnpiofcooaaGreat.Ax
open Go Go.RowKit
set_option linter.unusedSimpArgs false
end Go.Proofs.YtigepnpiofcooaaGreat.Ax
namespace Go.Proofs.YtigepnpiofcooaaGreat.Ax
open Go Go.RowKit
set_option linter.unusedSimpArgs false
end Go.Proofs.YtigepnpiofcooaaGreat.Ax
namespace Go.Proofs.YtigepnpiofcooaaGreat.Ax
open Go Go.RowKit
set_option linter.unusedSimpArgs false
end Go.Proofs.YtigepnpiofcooaaGreat.Ax
namespace Go.Proofs.YtigepnpiofcooaaGreat.Ax
open Go Go.RowKit
set_option linter.unusedSimpArgs false
def posFrom (v : Int) : List Int → Nat → Int
  | [], _ => -1
  | x :: xs, k => if x = v then k else posFrom v xs (k + 1)
def pos (xs : List Int) (v : Int) : Int := posFrom v xs 0
theorem drop_get {α : Type} {xs : List α} {k : Nat} (h : k < xs.length) : xs.drop k = xs[k] :: xs.drop (k + 1) := List.drop_eq_getElem_cons h
noncomputable def mPos : List AV → Option AV := mk (fun _ => True) (fun (p : (Bool) × (List Int) × (Int)) => [ints p.1 p.2.1, int p.2.2]) (fun p => int (pos p.2.1 p.2.2))
theorem mPos_at (nl : Bool) (xs : List Int) (v : Int) : mPos [.sl nl 1 (xs.map int), .v (.int .i64 v)] = some (.v (.int .i64 (pos xs v))) :=
  mk_eq (enc := fun (p : (Bool) × (List Int) × (Int)) => [ints p.1 p.2.1, int p.2.2]) (x := (nl, xs, v)) (by rintro ⟨a0, a1, a2⟩ ⟨b0, b1, b2⟩ h; simp [ints, intss, int, bool, row, frac, fracs, map_int_inj, map_row_inj, frac_inj, map_frac_inj] at h; simp [h]) trivial
set_option maxHeartbeats 1000000 in
theorem slicesIndex_ok : FnOk Tryz.prog 132 mPos := by
  refine mk_ok fun ⟨nl, xs, v⟩ _ => ?_
  have hG : FnsOk Tryz.prog [] := .nil
  refine callOk_awp (ctx_ok eqOk hG) mixed (live := [true, true, false, false, true, true, false, true, true, true, false, false, false, false, false, false, true]) (dt := []) Tryz.func132 rfl (by kernel_rfl) (by kernel_rfl) fun w0 hlens => ?_
  simp only [lensL, lens, ints, int, List.length_map] at hlens
  generalize hr : pos xs v = r
  simp [Tryz.f132, List.range, List.range.loop, ints, intss, int, bool, row, frac, fracs, ← List.map_take, ← List.map_drop, ints]
  refine awp_range (live := [true, true, false, false, true, true, false, true, true, true, false, false, false, false, false, false, true]) (ctx_ok eqOk hG) mixed [true, true, false, false, false, false, false, true, true] (xs.length) (fun k => posFrom v (xs.drop k) k = r) (fun k => ⟨[ints nl xs, int v, .junk, .junk, .junk, .junk, .junk, int xs.length, int k, .junk, .junk, .junk, .junk, .junk, .junk, .junk, .junk, .junk, .junk], []⟩) ?_ (by simp [sub, slotsLe, clean, keep, refsL, refs, once, place, renL, ren, List.replicate, int, bool, ints]) ?_ ?_ ?_
  · exact hlens.1.1.1
  · simpa [pos] using hr
  · intro k h hp hw
    rw [drop_get h, posFrom] at hp
    by_cases e : xs[k] = v
    · rw [if_pos e] at hp; subst hp
      simp [List.range, List.range.loop, ints, intss, int, bool, row, frac, fracs, ← List.map_take, ← List.map_drop, h, e]
    · rw [if_neg e] at hp
      have e' : ¬ v = xs[k] := fun h => e h.symm
      simp [List.range, List.range.loop, ints, intss, int, bool, row, frac, fracs, ← List.map_take, ← List.map_drop, h, hw, hp, e']
  · intro hp
    simp [posFrom] at hp; subst hp
    simp [List.range, List.range.loop, ints, intss, int, bool, row, frac, fracs, ← List.map_take, ← List.map_drop]
end Go.Proofs.YtigepnpiofcooaaGreat.Ax
