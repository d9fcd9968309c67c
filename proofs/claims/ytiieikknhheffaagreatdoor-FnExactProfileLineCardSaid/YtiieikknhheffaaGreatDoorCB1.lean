/-
  What this seat's program says of the types that the proofs meet. No condition.
-/
import Derived.Test.YtiieikknhheffaaGreatDoorCK4
import Derived.Test.YtiieikknhheffaaGreatDoorProg
import Derived.Test.YtiieikknhheffaaGreatDoorRows
namespace Go.Proofs.YtiieikknhheffaaGreatDoor.Ax
open Go Go.RowKit

theorem ty2 : tyOf Tryz.prog 2 = some ({ desc := TypeDesc.int IntKind.i64, size := 1, bytes := 8, zero := Value.int IntKind.i64 0 } : TI) := by kernel_rfl
theorem ty3 : tyOf Tryz.prog 3 = some ({ desc := TypeDesc.int IntKind.i64, size := 1, bytes := 8, zero := Value.int IntKind.i64 0 } : TI) := by kernel_rfl
theorem ty4 : tyOf Tryz.prog 4 = some ({ desc := TypeDesc.bool, size := 1, bytes := 1, zero := Value.bool false } : TI) := by kernel_rfl
theorem ty5 : tyOf Tryz.prog 5 = some ({ desc := TypeDesc.int IntKind.u8, size := 1, bytes := 1, zero := Value.int IntKind.u8 0 } : TI) := by kernel_rfl
theorem ty9 : tyOf Tryz.prog 9 = some ({ desc := TypeDesc.string, size := 1, bytes := 16, zero := Value.string ⟨#[]⟩ } : TI) := by kernel_rfl
theorem ty12 : tyOf Tryz.prog 12 = some ({ desc := TypeDesc.int IntKind.u64, size := 1, bytes := 8, zero := Value.int IntKind.u64 0 } : TI) := by kernel_rfl
theorem ty21 : tyOf Tryz.prog 21 = some ({ desc := TypeDesc.int IntKind.i32, size := 1, bytes := 4, zero := Value.int IntKind.i32 0 } : TI) := by kernel_rfl
theorem ty22 : tyOf Tryz.prog 22 = some ({ desc := TypeDesc.slice 109, size := 1, bytes := 24, zero := Value.slice none 0 0 } : TI) := by kernel_rfl
theorem ty23 : tyOf Tryz.prog 23 = some ({ desc := TypeDesc.struct #[{ name := "Size", type := 3, offset := 0, embedded := false, tag := "", pkgPath := "", byteOffset := 0 }, { name := "Votes", type := 22, offset := 1, embedded := false, tag := "", pkgPath := "", byteOffset := 8 }], size := 2, bytes := 32, zero := Value.agg #[Value.int IntKind.i64 0, Value.slice none 0 0] } : TI) := by kernel_rfl
theorem ty24 : tyOf Tryz.prog 24 = some ({ desc := TypeDesc.struct #[{ name := "Size", type := 3, offset := 0, embedded := false, tag := "", pkgPath := "", byteOffset := 0 }, { name := "Votes", type := 22, offset := 1, embedded := false, tag := "", pkgPath := "", byteOffset := 8 }], size := 2, bytes := 32, zero := Value.agg #[Value.int IntKind.i64 0, Value.slice none 0 0] } : TI) := by kernel_rfl
theorem ty27 : tyOf Tryz.prog 27 = some ({ desc := TypeDesc.slice 75, size := 1, bytes := 24, zero := Value.slice none 0 0 } : TI) := by kernel_rfl
theorem ty28 : tyOf Tryz.prog 28 = some ({ desc := TypeDesc.struct #[{ name := "Size", type := 3, offset := 0, embedded := false, tag := "", pkgPath := "", byteOffset := 0 }, { name := "Votes", type := 27, offset := 1, embedded := false, tag := "", pkgPath := "", byteOffset := 8 }], size := 2, bytes := 32, zero := Value.agg #[Value.int IntKind.i64 0, Value.slice none 0 0] } : TI) := by kernel_rfl
theorem ty29 : tyOf Tryz.prog 29 = some ({ desc := TypeDesc.struct #[{ name := "Size", type := 3, offset := 0, embedded := false, tag := "", pkgPath := "", byteOffset := 0 }, { name := "Votes", type := 27, offset := 1, embedded := false, tag := "", pkgPath := "", byteOffset := 8 }], size := 2, bytes := 32, zero := Value.agg #[Value.int IntKind.i64 0, Value.slice none 0 0] } : TI) := by kernel_rfl
theorem ty33 : tyOf Tryz.prog 33 = some ({ desc := TypeDesc.slice 5, size := 1, bytes := 24, zero := Value.slice none 0 0 } : TI) := by kernel_rfl
theorem ty35 : tyOf Tryz.prog 35 = some ({ desc := TypeDesc.slice 3, size := 1, bytes := 24, zero := Value.slice none 0 0 } : TI) := by kernel_rfl
theorem ty44 : tyOf Tryz.prog 44 = some ({ desc := TypeDesc.slice 35, size := 1, bytes := 24, zero := Value.slice none 0 0 } : TI) := by kernel_rfl
theorem ty46 : tyOf Tryz.prog 46 = some ({ desc := TypeDesc.struct #[{ name := "Top", type := 3, offset := 0, embedded := false, tag := "", pkgPath := "", byteOffset := 0 }, { name := "Bottom", type := 3, offset := 1, embedded := false, tag := "", pkgPath := "", byteOffset := 8 }], size := 2, bytes := 16, zero := Value.agg #[Value.int IntKind.i64 0, Value.int IntKind.i64 0] } : TI) := by kernel_rfl
theorem ty47 : tyOf Tryz.prog 47 = some ({ desc := TypeDesc.struct #[{ name := "Top", type := 3, offset := 0, embedded := false, tag := "", pkgPath := "", byteOffset := 0 }, { name := "Bottom", type := 3, offset := 1, embedded := false, tag := "", pkgPath := "", byteOffset := 8 }], size := 2, bytes := 16, zero := Value.agg #[Value.int IntKind.i64 0, Value.int IntKind.i64 0] } : TI) := by kernel_rfl
theorem ty48 : tyOf Tryz.prog 48 = some ({ desc := TypeDesc.slice 47, size := 1, bytes := 24, zero := Value.slice none 0 0 } : TI) := by kernel_rfl
theorem ty51 : tyOf Tryz.prog 51 = some ({ desc := TypeDesc.slice 48, size := 1, bytes := 24, zero := Value.slice none 0 0 } : TI) := by kernel_rfl
theorem ty56 : tyOf Tryz.prog 56 = some ({ desc := TypeDesc.slice 51, size := 1, bytes := 24, zero := Value.slice none 0 0 } : TI) := by kernel_rfl
theorem ty57 : tyOf Tryz.prog 57 = some ({ desc := TypeDesc.slice 96, size := 1, bytes := 24, zero := Value.slice none 0 0 } : TI) := by kernel_rfl
theorem ty68 : tyOf Tryz.prog 68 = some ({ desc := TypeDesc.slice 9, size := 1, bytes := 24, zero := Value.slice none 0 0 } : TI) := by kernel_rfl
theorem ty74 : tyOf Tryz.prog 74 = some ({ desc := TypeDesc.struct #[{ name := "Ranking", type := 35, offset := 0, embedded := false, tag := "", pkgPath := "", byteOffset := 0 }, { name := "Count", type := 3, offset := 1, embedded := false, tag := "", pkgPath := "", byteOffset := 24 }], size := 2, bytes := 32, zero := Value.agg #[Value.slice none 0 0, Value.int IntKind.i64 0] } : TI) := by kernel_rfl
theorem ty75 : tyOf Tryz.prog 75 = some ({ desc := TypeDesc.struct #[{ name := "Ranking", type := 35, offset := 0, embedded := false, tag := "", pkgPath := "", byteOffset := 0 }, { name := "Count", type := 3, offset := 1, embedded := false, tag := "", pkgPath := "", byteOffset := 24 }], size := 2, bytes := 32, zero := Value.agg #[Value.slice none 0 0, Value.int IntKind.i64 0] } : TI) := by kernel_rfl
theorem ty95 : tyOf Tryz.prog 95 = some ({ desc := TypeDesc.struct #[{ name := "Weight", type := 47, offset := 0, embedded := false, tag := "", pkgPath := "", byteOffset := 0 }, { name := "List", type := 35, offset := 2, embedded := false, tag := "", pkgPath := "", byteOffset := 16 }], size := 3, bytes := 40, zero := Value.agg #[Value.int IntKind.i64 0, Value.int IntKind.i64 0, Value.slice none 0 0] } : TI) := by kernel_rfl
theorem ty96 : tyOf Tryz.prog 96 = some ({ desc := TypeDesc.struct #[{ name := "Weight", type := 47, offset := 0, embedded := false, tag := "", pkgPath := "", byteOffset := 0 }, { name := "List", type := 35, offset := 2, embedded := false, tag := "", pkgPath := "", byteOffset := 16 }], size := 3, bytes := 40, zero := Value.agg #[Value.int IntKind.i64 0, Value.int IntKind.i64 0, Value.slice none 0 0] } : TI) := by kernel_rfl
theorem ty109 : tyOf Tryz.prog 109 = some ({ desc := TypeDesc.struct #[{ name := "Ranking", type := 35, offset := 0, embedded := false, tag := "", pkgPath := "", byteOffset := 0 }, { name := "Count", type := 3, offset := 1, embedded := false, tag := "", pkgPath := "", byteOffset := 24 }], size := 2, bytes := 32, zero := Value.agg #[Value.slice none 0 0, Value.int IntKind.i64 0] } : TI) := by kernel_rfl
theorem ty128 : tyOf Tryz.prog 128 = some ({ desc := TypeDesc.int IntKind.u64, size := 1, bytes := 8, zero := Value.int IntKind.u64 0 } : TI) := by kernel_rfl
theorem ty141 : tyOf Tryz.prog 141 = some ({ desc := TypeDesc.slice 4, size := 1, bytes := 24, zero := Value.slice none 0 0 } : TI) := by kernel_rfl
theorem ty146 : tyOf Tryz.prog 146 = some ({ desc := TypeDesc.struct #[{ name := "addr", type := 145, offset := 0, embedded := false, tag := "", pkgPath := "strings", byteOffset := 0 }, { name := "buf", type := 33, offset := 1, embedded := false, tag := "", pkgPath := "strings", byteOffset := 8 }], size := 2, bytes := 32, zero := Value.agg #[Value.pointer none, Value.slice none 0 0] } : TI) := by kernel_rfl
theorem ty147 : tyOf Tryz.prog 147 = some ({ desc := TypeDesc.struct #[{ name := "addr", type := 145, offset := 0, embedded := false, tag := "", pkgPath := "strings", byteOffset := 0 }, { name := "buf", type := 33, offset := 1, embedded := false, tag := "", pkgPath := "strings", byteOffset := 8 }], size := 2, bytes := 32, zero := Value.agg #[Value.pointer none, Value.slice none 0 0] } : TI) := by kernel_rfl
theorem ty150 : tyOf Tryz.prog 150 = some ({ desc := TypeDesc.interface #[("Error", 153)], size := 1, bytes := 16, zero := Value.nilIface } : TI) := by kernel_rfl
theorem ty154 : tyOf Tryz.prog 154 = some ({ desc := TypeDesc.struct #[{ name := "b", type := 33, offset := 0, embedded := false, tag := "", pkgPath := "loop.example/g03202/spec", byteOffset := 0 }, { name := "i", type := 3, offset := 1, embedded := false, tag := "", pkgPath := "loop.example/g03202/spec", byteOffset := 24 }, { name := "h", type := 3, offset := 2, embedded := false, tag := "", pkgPath := "loop.example/g03202/spec", byteOffset := 32 }], size := 3, bytes := 40, zero := Value.agg #[Value.slice none 0 0, Value.int IntKind.i64 0, Value.int IntKind.i64 0] } : TI) := by kernel_rfl
theorem ty155 : tyOf Tryz.prog 155 = some ({ desc := TypeDesc.struct #[{ name := "b", type := 33, offset := 0, embedded := false, tag := "", pkgPath := "loop.example/g03202/spec", byteOffset := 0 }, { name := "i", type := 3, offset := 1, embedded := false, tag := "", pkgPath := "loop.example/g03202/spec", byteOffset := 24 }, { name := "h", type := 3, offset := 2, embedded := false, tag := "", pkgPath := "loop.example/g03202/spec", byteOffset := 32 }], size := 3, bytes := 40, zero := Value.agg #[Value.slice none 0 0, Value.int IntKind.i64 0, Value.int IntKind.i64 0] } : TI) := by kernel_rfl
theorem ty161 : tyOf Tryz.prog 161 = some ({ desc := TypeDesc.int IntKind.u32, size := 1, bytes := 4, zero := Value.int IntKind.u32 0 } : TI) := by kernel_rfl
theorem ty163 : tyOf Tryz.prog 163 = some ({ desc := TypeDesc.int IntKind.u64, size := 1, bytes := 8, zero := Value.int IntKind.u64 0 } : TI) := by kernel_rfl
theorem ty175 : tyOf Tryz.prog 175 = some ({ desc := TypeDesc.array 24 5, size := 24, bytes := 24, zero := Value.agg #[Value.int IntKind.u8 0, Value.int IntKind.u8 0, Value.int IntKind.u8 0, Value.int IntKind.u8 0, Value.int IntKind.u8 0, Value.int IntKind.u8 0, Value.int IntKind.u8 0, Value.int IntKind.u8 0, Value.int IntKind.u8 0, Value.int IntKind.u8 0, Value.int IntKind.u8 0, Value.int IntKind.u8 0, Value.int IntKind.u8 0, Value.int IntKind.u8 0, Value.int IntKind.u8 0, Value.int IntKind.u8 0, Value.int IntKind.u8 0, Value.int IntKind.u8 0, Value.int IntKind.u8 0, Value.int IntKind.u8 0, Value.int IntKind.u8 0, Value.int IntKind.u8 0, Value.int IntKind.u8 0, Value.int IntKind.u8 0] } : TI) := by kernel_rfl
theorem ty190 : tyOf Tryz.prog 190 = some ({ desc := TypeDesc.array 20 163, size := 20, bytes := 160, zero := Value.agg #[Value.int IntKind.u64 0, Value.int IntKind.u64 0, Value.int IntKind.u64 0, Value.int IntKind.u64 0, Value.int IntKind.u64 0, Value.int IntKind.u64 0, Value.int IntKind.u64 0, Value.int IntKind.u64 0, Value.int IntKind.u64 0, Value.int IntKind.u64 0, Value.int IntKind.u64 0, Value.int IntKind.u64 0, Value.int IntKind.u64 0, Value.int IntKind.u64 0, Value.int IntKind.u64 0, Value.int IntKind.u64 0, Value.int IntKind.u64 0, Value.int IntKind.u64 0, Value.int IntKind.u64 0, Value.int IntKind.u64 0] } : TI) := by kernel_rfl
theorem ty191 : tyOf Tryz.prog 191 = some ({ desc := TypeDesc.array 65 5, size := 65, bytes := 65, zero := Value.agg #[Value.int IntKind.u8 0, Value.int IntKind.u8 0, Value.int IntKind.u8 0, Value.int IntKind.u8 0, Value.int IntKind.u8 0, Value.int IntKind.u8 0, Value.int IntKind.u8 0, Value.int IntKind.u8 0, Value.int IntKind.u8 0, Value.int IntKind.u8 0, Value.int IntKind.u8 0, Value.int IntKind.u8 0, Value.int IntKind.u8 0, Value.int IntKind.u8 0, Value.int IntKind.u8 0, Value.int IntKind.u8 0, Value.int IntKind.u8 0, Value.int IntKind.u8 0, Value.int IntKind.u8 0, Value.int IntKind.u8 0, Value.int IntKind.u8 0, Value.int IntKind.u8 0, Value.int IntKind.u8 0, Value.int IntKind.u8 0, Value.int IntKind.u8 0, Value.int IntKind.u8 0, Value.int IntKind.u8 0, Value.int IntKind.u8 0, Value.int IntKind.u8 0, Value.int IntKind.u8 0, Value.int IntKind.u8 0, Value.int IntKind.u8 0, Value.int IntKind.u8 0, Value.int IntKind.u8 0, Value.int IntKind.u8 0, Value.int IntKind.u8 0, Value.int IntKind.u8 0, Value.int IntKind.u8 0, Value.int IntKind.u8 0, Value.int IntKind.u8 0, Value.int IntKind.u8 0, Value.int IntKind.u8 0, Value.int IntKind.u8 0, Value.int IntKind.u8 0, Value.int IntKind.u8 0, Value.int IntKind.u8 0, Value.int IntKind.u8 0, Value.int IntKind.u8 0, Value.int IntKind.u8 0, Value.int IntKind.u8 0, Value.int IntKind.u8 0, Value.int IntKind.u8 0, Value.int IntKind.u8 0, Value.int IntKind.u8 0, Value.int IntKind.u8 0, Value.int IntKind.u8 0, Value.int IntKind.u8 0, Value.int IntKind.u8 0, Value.int IntKind.u8 0, Value.int IntKind.u8 0, Value.int IntKind.u8 0, Value.int IntKind.u8 0, Value.int IntKind.u8 0, Value.int IntKind.u8 0, Value.int IntKind.u8 0] } : TI) := by kernel_rfl
theorem ty192 : tyOf Tryz.prog 192 = some ({ desc := TypeDesc.array 32 5, size := 32, bytes := 32, zero := Value.agg #[Value.int IntKind.u8 0, Value.int IntKind.u8 0, Value.int IntKind.u8 0, Value.int IntKind.u8 0, Value.int IntKind.u8 0, Value.int IntKind.u8 0, Value.int IntKind.u8 0, Value.int IntKind.u8 0, Value.int IntKind.u8 0, Value.int IntKind.u8 0, Value.int IntKind.u8 0, Value.int IntKind.u8 0, Value.int IntKind.u8 0, Value.int IntKind.u8 0, Value.int IntKind.u8 0, Value.int IntKind.u8 0, Value.int IntKind.u8 0, Value.int IntKind.u8 0, Value.int IntKind.u8 0, Value.int IntKind.u8 0, Value.int IntKind.u8 0, Value.int IntKind.u8 0, Value.int IntKind.u8 0, Value.int IntKind.u8 0, Value.int IntKind.u8 0, Value.int IntKind.u8 0, Value.int IntKind.u8 0, Value.int IntKind.u8 0, Value.int IntKind.u8 0, Value.int IntKind.u8 0, Value.int IntKind.u8 0, Value.int IntKind.u8 0] } : TI) := by kernel_rfl
theorem ty193 : tyOf Tryz.prog 193 = some ({ desc := TypeDesc.array 64 5, size := 64, bytes := 64, zero := Value.agg #[Value.int IntKind.u8 0, Value.int IntKind.u8 0, Value.int IntKind.u8 0, Value.int IntKind.u8 0, Value.int IntKind.u8 0, Value.int IntKind.u8 0, Value.int IntKind.u8 0, Value.int IntKind.u8 0, Value.int IntKind.u8 0, Value.int IntKind.u8 0, Value.int IntKind.u8 0, Value.int IntKind.u8 0, Value.int IntKind.u8 0, Value.int IntKind.u8 0, Value.int IntKind.u8 0, Value.int IntKind.u8 0, Value.int IntKind.u8 0, Value.int IntKind.u8 0, Value.int IntKind.u8 0, Value.int IntKind.u8 0, Value.int IntKind.u8 0, Value.int IntKind.u8 0, Value.int IntKind.u8 0, Value.int IntKind.u8 0, Value.int IntKind.u8 0, Value.int IntKind.u8 0, Value.int IntKind.u8 0, Value.int IntKind.u8 0, Value.int IntKind.u8 0, Value.int IntKind.u8 0, Value.int IntKind.u8 0, Value.int IntKind.u8 0, Value.int IntKind.u8 0, Value.int IntKind.u8 0, Value.int IntKind.u8 0, Value.int IntKind.u8 0, Value.int IntKind.u8 0, Value.int IntKind.u8 0, Value.int IntKind.u8 0, Value.int IntKind.u8 0, Value.int IntKind.u8 0, Value.int IntKind.u8 0, Value.int IntKind.u8 0, Value.int IntKind.u8 0, Value.int IntKind.u8 0, Value.int IntKind.u8 0, Value.int IntKind.u8 0, Value.int IntKind.u8 0, Value.int IntKind.u8 0, Value.int IntKind.u8 0, Value.int IntKind.u8 0, Value.int IntKind.u8 0, Value.int IntKind.u8 0, Value.int IntKind.u8 0, Value.int IntKind.u8 0, Value.int IntKind.u8 0, Value.int IntKind.u8 0, Value.int IntKind.u8 0, Value.int IntKind.u8 0, Value.int IntKind.u8 0, Value.int IntKind.u8 0, Value.int IntKind.u8 0, Value.int IntKind.u8 0, Value.int IntKind.u8 0] } : TI) := by kernel_rfl
theorem ty196 : tyOf Tryz.prog 196 = some ({ desc := TypeDesc.array 0 16, size := 0, bytes := 0, zero := Value.agg #[] } : TI) := by kernel_rfl
theorem ty205 : tyOf Tryz.prog 205 = some ({ desc := TypeDesc.struct #[{ name := "Size_", type := 12, offset := 0, embedded := false, tag := "", pkgPath := "", byteOffset := 0 }, { name := "PtrBytes", type := 12, offset := 1, embedded := false, tag := "", pkgPath := "", byteOffset := 8 }, { name := "Hash", type := 161, offset := 2, embedded := false, tag := "", pkgPath := "", byteOffset := 16 }, { name := "TFlag", type := 200, offset := 3, embedded := false, tag := "", pkgPath := "", byteOffset := 20 }, { name := "Align_", type := 5, offset := 4, embedded := false, tag := "", pkgPath := "", byteOffset := 21 }, { name := "FieldAlign_", type := 5, offset := 5, embedded := false, tag := "", pkgPath := "", byteOffset := 22 }, { name := "Kind_", type := 201, offset := 6, embedded := false, tag := "", pkgPath := "", byteOffset := 23 }, { name := "Equal", type := 202, offset := 7, embedded := false, tag := "", pkgPath := "", byteOffset := 24 }, { name := "GCData", type := 171, offset := 8, embedded := false, tag := "", pkgPath := "", byteOffset := 32 }, { name := "Str", type := 203, offset := 9, embedded := false, tag := "", pkgPath := "", byteOffset := 40 }, { name := "PtrToThis", type := 204, offset := 10, embedded := false, tag := "", pkgPath := "", byteOffset := 44 }], size := 11, bytes := 48, zero := Value.agg #[Value.int IntKind.u64 0, Value.int IntKind.u64 0, Value.int IntKind.u32 0, Value.int IntKind.u8 0, Value.int IntKind.u8 0, Value.int IntKind.u8 0, Value.int IntKind.u8 0, Value.nilFunc, Value.pointer none, Value.int IntKind.i32 0, Value.int IntKind.i32 0] } : TI) := by kernel_rfl

/-- The structs of plain ints that are compared. -/
def eqT : TypeId → Option Nat := fun t => if t = 47 then some 2 else none
theorem eqOk : ∀ t n, eqT t = some n → EqOk Tryz.prog t n := by
  intro t n h
  unfold eqT at h
  split at h
  · rename_i e; subst e
    simp only [Option.some.injEq] at h; subst h
    exact eqOk_two (by kernel_rfl) (by kernel_rfl) Tryz.underlying3 Tryz.underlying47 (by decide) (by decide)
  · simp at h

attribute [simp] awp_skip awp_seq awp_block awp_exit awp_ret awp_loop awp_rangeF awp_region awp_cond contS_normal contS_exit contS_ret inB_normal inB_exit inB_ret loopS_normal loopS_exit loopS_ret doneS_normal doneS_ret regS_some condS_bool bindS_some rrun_nil rrun_cons outD_some stepG_some rstep_eq callOut_some callOut_none mutCall_none movCall_none frzCall_none frzCall_some alt_none alt_some regrun_false regrun_true noLd_dt mkLd_dt frzLd_dt ldR_dt dtGet rdraw_eq rrunD_nil rrunD_cons contD_eq rstepD_eq outDr_some outC_zero outC_succ needs chk stR opR jk jkL meets appO appU upX shf nums sets Op.operands Call.operands noM_mk callV_fn aop_call take_map_all guardOk aop ev putD ofV ofV1 Value.oneCell' asNat abin aun pickAV scal frz nilS TypeDesc.aggB AV.cells lenAV getAt loadCell loadCells res resL intern internL putCells ownR ownRL ownV drops flat kill killL killN killNL clean keep refsL refs once place renL ren ctx G resOk resVars resVar pack viewEs bndOf appX appY ty2 ty3 ty4 ty5 ty9 ty12 ty21 ty22 ty23 ty24 ty27 ty28 ty29 ty33 ty35 ty44 ty46 ty47 ty48 ty51 ty56 ty57 ty68 ty74 ty75 ty95 ty96 ty109 ty128 ty141 ty146 ty147 ty150 ty154 ty155 ty161 ty163 ty175 ty190 ty191 ty192 ty193 ty196 ty205 eqT cellInts bld partOk nilAV bytesOf regS_ite allS_map allS_v allS_rep pickAV_bool nn1 tn1 nz1 nz1' lt1 sub slotsLe rngS_normal rngS_exit rngS_ret ctxV ctxH GH GM GV doneF_normal doneF_ret resVarsF resVarF mutCall movCall others setAt setCell ctxM resM doneM_normal doneM_ret

theorem mixed : Tryz.prog.follows .mixedOrders = true := by kernel_rfl

end Go.Proofs.YtiieikknhheffaaGreatDoor.Ax

/-
  Contracts of small functions. No condition.
-/
namespace Go.Proofs.YtiieikknhheffaaGreatDoor.Ax
open Go Go.RowKit

def mWithin : List AV → Option AV
  | [.v (.int .i64 n), .v (.int .i64 lo), .v (.int .i64 hi)] => some (.v (.bool (decide (lo ≤ n) && decide (n ≤ hi))))
  | _ => none

set_option linter.unusedSimpArgs false
set_option maxHeartbeats 400000 in
theorem within_ok : FnOk Tryz.prog 78 mWithin := by
  intro args r h
  unfold mWithin at h
  split at h
  · rename_i n lo hi
    simp only [Option.some.injEq] at h; subst h
    refine callOk_of_awp (ctx_ok eqOk .nil) mixed (live := [true, true, true, false, false, false, true]) (dt := []) Tryz.func78 rfl (by kernel_rfl) (by kernel_rfl) fun w0 => ?_
    by_cases h : lo ≤ n
    · simp [Tryz.f78, List.range, List.range.loop, h]
    · simp [Tryz.f78, List.range, List.range.loop, h]
  · simp at h

def sumW (xs : List Int) : Int := xs.foldl (fun s n => IntKind.i64.wrap (s + n)) 0

theorem sumW_succ {xs : List Int} {k : Nat} (h : k < xs.length) : sumW (xs.take (k + 1)) = IntKind.i64.wrap (sumW (xs.take k) + xs[k]) := by
  unfold sumW; rw [List.take_succ_eq_append_getElem h, List.foldl_append]; rfl

noncomputable def mSum : List AV → Option AV := mk (fun _ => True) (fun (p : Bool × List Int) => [ints p.1 p.2]) (fun p => int (sumW p.2))

theorem mSum_at (nl : Bool) (xs : List Int) : mSum [.sl nl 1 (xs.map int)] = some (.v (.int .i64 (sumW xs))) :=
  mk_eq (enc := fun (p : Bool × List Int) => [ints p.1 p.2]) (x := (nl, xs)) (by rintro ⟨a, b⟩ ⟨c, d⟩ h; simp [ints, map_int_inj] at h; simp [h]) trivial

theorem lens_ints {nl : Bool} {xs : List Int} : lens (.sl nl 1 (xs.map int)) ↔ xs.length ≤ 9223372036854775807 ∧ (nl = true → xs = []) := by
  simp [lens, lensL_map, int]

set_option maxHeartbeats 400000 in
theorem sumOf_ok : FnOk Tryz.prog 123 mSum := by
  refine mk_ok fun ⟨nl, xs⟩ _ => ?_
  refine callOk_awp (ctx_ok eqOk .nil) mixed (live := [true, false, true, true, false, true, true, true, true, true]) (dt := []) Tryz.func123 rfl (by kernel_rfl) (by kernel_rfl) fun w0 hlens => ?_
  have hpre : xs.length ≤ 9223372036854775807 := (lens_ints.1 hlens.1).1
  simp [Tryz.f123, List.range, List.range.loop, ints]
  refine awp_loop_of (ctx_ok eqOk .nil) mixed (live := [true, false, true, true, false, true, true, true, true, true]) [true, false, true, true, false, false, true, true, true] (α := {k : Nat // k ≤ xs.length})
    (fun k => ⟨[ints nl xs, .junk, int 0, int (sumW (xs.take k.1)), .junk, .junk, ints nl xs, int xs.length, int k.1, .junk, .junk, .junk, .junk, .junk, .junk, .junk, .junk], []⟩) (fun k => xs.length - k.1) ⟨0, by omega⟩ (by simp [sub, slotsLe, clean, keep, refsL, refs, once, place, renL, ren, List.replicate, int, bool, ints, int, sumW]) ?_
  rintro ⟨k, hk⟩
  by_cases h : k < xs.length
  · simp [List.range, List.range.loop, ints, int, h]
    refine ⟨⟨k + 1, h⟩, ?_, by simp; omega⟩
    simp [sub, slotsLe, clean, keep, refsL, refs, once, place, renL, ren, List.replicate, int, bool, int, ints, sumW_succ h]
    rw [wrapI (by omega) (by omega)]
  · simp [List.range, List.range.loop, ints, int, h]
    rw [List.take_of_length_le (by omega)]

end Go.Proofs.YtiieikknhheffaaGreatDoor.Ax

/-
  Contracts of the functions on fractions. No condition.
-/
namespace Go.Proofs.YtiieikknhheffaaGreatDoor.Ax
open Go Go.RowKit
set_option linter.unusedSimpArgs false

theorem mWithin_at (n lo hi : Int) : mWithin [.v (.int .i64 n), .v (.int .i64 lo), .v (.int .i64 hi)] = some (.v (.bool (decide (lo ≤ n) && decide (n ≤ hi)))) := rfl

set_option maxHeartbeats 400000 in
theorem l01In_ok : FnOk Tryz.prog 75 mWithin := by
  intro args r h
  unfold mWithin at h
  split at h
  · rename_i n lo hi
    simp only [Option.some.injEq] at h; subst h
    refine callOk_of_awp (ctx_ok eqOk .nil) mixed (live := [true, true, true, false, false, false, true]) (dt := []) Tryz.func75 rfl (by kernel_rfl) (by kernel_rfl) fun w0 => ?_
    by_cases h : lo ≤ n
    · simp [Tryz.f75, List.range, List.range.loop, h]
    · simp [Tryz.f75, List.range, List.range.loop, h]
  · simp at h

/-- The greatest divisor of two ints, where it stays small. -/
noncomputable def mGcd (lo : Int) : List AV → Option AV := mk (fun (p : Int × Int) => lo ≤ p.1 ∧ p.1 ≤ 4611686018427387904 ∧ lo ≤ p.2 ∧ p.2 ≤ 4611686018427387904) (fun p => [int p.1, int p.2]) (fun p => int (Int.gcd p.1 p.2))

theorem mGcd_at (lo a b : Int) (h1 : lo ≤ a) (h2 : a ≤ 4611686018427387904) (h3 : lo ≤ b) (h4 : b ≤ 4611686018427387904) : mGcd lo [.v (.int .i64 a), .v (.int .i64 b)] = some (.v (.int .i64 (Int.gcd a b))) :=
  mk_eq (enc := fun (p : Int × Int) => [int p.1, int p.2]) (x := (a, b)) (by rintro ⟨a, b⟩ ⟨c, d⟩ h; simp [int] at h; simp [h]) ⟨h1, h2, h3, h4⟩

theorem gcd_step (x y : Int) : Int.gcd y (x.tmod y) = Int.gcd x y := by
  simp only [Int.gcd, Int.natAbs_tmod]
  rw [Nat.gcd_comm x.natAbs y.natAbs, Nat.gcd_comm y.natAbs (x.natAbs % y.natAbs), ← Nat.gcd_rec]

theorem tmod_small (x y : Int) (h : y ≠ 0) : (x.tmod y).natAbs < y.natAbs := by
  rw [Int.natAbs_tmod]; exact Nat.mod_lt _ (by omega)

set_option maxHeartbeats 400000 in
theorem l02Gcd_ok : FnOk Tryz.prog 137 (mGcd 0) := by
  refine mk_ok fun ⟨a, b⟩ ⟨ha, ha', hb, hb'⟩ => ?_
  simp only at ha ha' hb hb'
  refine callOk_of_awp (ctx_ok eqOk .nil) mixed (live := [true, true, false, false, true, true, false, true]) (dt := []) Tryz.func137 rfl (by kernel_rfl) (by kernel_rfl) fun w0 => ?_
  simp [Tryz.f137, List.range, List.range.loop, int]
  refine awp_loop_of (ctx_ok eqOk .nil) mixed (live := [true, true, false, false, true, true, false, true]) [true, true, false, false, true] (α := {p : Int × Int // 0 ≤ p.1 ∧ 0 ≤ p.2 ∧ Int.gcd p.1 p.2 = Int.gcd a b})
    (fun p => ⟨[int p.1.1, int p.1.2, .junk, .junk, int 0, .junk, .junk, .junk, .junk, .junk, .junk, .junk, .junk, .junk], []⟩) (fun p => p.1.2.toNat) ⟨(a, b), ha, hb, rfl⟩ (by simp [sub, slotsLe, clean, keep, refsL, refs, once, place, renL, ren, List.replicate, int, bool, int]) ?_
  rintro ⟨⟨x, y⟩, hx, hy, hg⟩
  simp only at hx hy hg
  by_cases h : 0 < y
  · have hne : y ≠ 0 := by omega
    simp [List.range, List.range.loop, int, h, hne]
    refine ⟨⟨(y, x.tmod y), by omega, Int.tmod_nonneg _ hx, ?_⟩, ?_, ?_⟩
    · rw [gcd_step]; exact hg
    · simp [sub, slotsLe, clean, keep, refsL, refs, once, place, renL, ren, List.replicate, int, bool, int]
    · have := tmod_small x y hne; have := Int.tmod_nonneg y hx; simp only; omega
  · have : y = 0 := by omega
    subst this
    simp [List.range, List.range.loop, int]
    rw [← hg]; simp [Int.gcd]; omega

set_option maxHeartbeats 400000 in
theorem gcd_ok : FnOk Tryz.prog 129 (mGcd (-4611686018427387904)) := by
  refine mk_ok fun ⟨a, b⟩ ⟨ha, ha', hb, hb'⟩ => ?_
  simp only at ha ha' hb hb'
  refine callOk_of_awp (ctx_ok eqOk .nil) mixed (live := [true, true, false, false, true, false, true]) (dt := [(2, ⟨[], [], []⟩)]) Tryz.func129 rfl (by kernel_rfl) (by kernel_rfl) fun w0 => ?_
  simp [Tryz.f129, List.range, List.range.loop, int]
  refine awp_loop_of (ctx_ok eqOk .nil) mixed (live := [true, true, false, false, true, false, true]) [true, true, false, false, true] (α := {p : Int × Int // (-4611686018427387904 ≤ p.1 ∧ p.1 ≤ 4611686018427387904) ∧ (-4611686018427387904 ≤ p.2 ∧ p.2 ≤ 4611686018427387904) ∧ Int.gcd p.1 p.2 = Int.gcd a b})
    (fun p => ⟨[int p.1.1, int p.1.2, .junk, .junk, int 0, .junk, .junk, .junk, .junk, .junk, .junk, .junk, .junk, .junk, .junk], []⟩) (fun p => p.1.2.natAbs) ⟨(a, b), ⟨ha, ha'⟩, ⟨hb, hb'⟩, rfl⟩ (by simp [sub, slotsLe, clean, keep, refsL, refs, once, place, renL, ren, List.replicate, int, bool, int]) ?_
  rintro ⟨⟨x, y⟩, hx, hy, hg⟩
  simp only at hx hy hg
  by_cases h : y = 0
  · subst h
    simp [List.range, List.range.loop, int]
    rw [wrapI (by omega) (by omega), ← hg]
    simp [Int.gcd]; omega
  · simp [List.range, List.range.loop, int, h]
    refine ⟨⟨(y, x.tmod y), hy, ?_, ?_⟩, ?_, ?_⟩
    · have := tmod_small x y h; simp only; omega
    · rw [gcd_step]; exact hg
    · simp [sub, slotsLe, clean, keep, refsL, refs, once, place, renL, ren, List.replicate, int, bool, int]
    · exact tmod_small x y h

def frac (f : Int × Int) : AV := .agg [.v (.int .i64 f.1), .v (.int .i64 f.2)]
def fracs (nl : Bool) (xs : List (Int × Int)) : AV := .sl nl 2 (xs.map frac)

theorem frac_inj {a b : Int × Int} : frac a = frac b ↔ a = b := by
  obtain ⟨a, a'⟩ := a; obtain ⟨b, b'⟩ := b; simp [frac]
theorem map_frac_inj {a b : List (Int × Int)} : a.map frac = b.map frac ↔ a = b := by
  constructor
  · intro h; exact (List.map_inj_right (fun x y => frac_inj.1)).1 h
  · rintro rfl; rfl

/-- A valid fraction. -/
def fracOk (f : Int × Int) : Bool := (decide (-1000000000 ≤ f.1) && decide (f.1 ≤ 1000000000)) && (decide (1 ≤ f.2) && decide (f.2 ≤ 1000000000)) && decide (Int.gcd f.1 f.2 = 1)

noncomputable def mFracOk : List AV → Option AV := mk (fun _ => True) (fun (f : Int × Int) => [frac f]) (fun f => bool (fracOk f))
theorem mFracOk_at (t b : Int) : mFracOk [.agg [.v (.int .i64 t), .v (.int .i64 b)]] = some (.v (.bool (fracOk (t, b)))) :=
  mk_eq (enc := fun f => [frac f]) (x := (t, b)) (by intro x y h; simp [frac_inj] at h; simp [h]) trivial

set_option maxHeartbeats 1000000 in
theorem implFractionOk_ok : FnOk Tryz.prog 90 mFracOk := by
  refine mk_ok fun ⟨t, b⟩ _ => ?_
  have hG : FnsOk Tryz.prog [(78, mWithin), (129, mGcd (-4611686018427387904))] := .cons within_ok (.cons gcd_ok .nil)
  refine callOk_of_awp (ctx_ok eqOk hG) mixed (live := [true, true, true]) (dt := []) Tryz.func90 rfl (by kernel_rfl) (by kernel_rfl) fun w0 => ?_
  by_cases h1 : -1000000000 ≤ t ∧ t ≤ 1000000000
  · by_cases h2 : 1 ≤ b ∧ b ≤ 1000000000
    · simp [Tryz.f90, List.range, List.range.loop, h1, h2, frac, mWithin_at, mGcd_at (-4611686018427387904) t b (by omega) (by omega) (by omega) (by omega), bool, fracOk]
      rw [Bool.eq_iff_iff]; simp; omega
    · have h2' : (decide (1 ≤ b) && decide (b ≤ 1000000000)) = false := by simpa using h2
      simp [Tryz.f90, List.range, List.range.loop, h1, h2', frac, mWithin_at, bool, fracOk]
  · have h1' : (decide (-1000000000 ≤ t) && decide (t ≤ 1000000000)) = false := by simpa using h1
    simp [Tryz.f90, List.range, List.range.loop, h1', frac, mWithin_at, bool, fracOk]

theorem gcd_abs (t b : Int) : Int.gcd (max t (-t)) b = Int.gcd t b := by
  simp only [Int.gcd]
  congr 1; omega

set_option maxHeartbeats 1000000 in
theorem specFractionOk_ok : FnOk Tryz.prog 76 mFracOk := by
  refine mk_ok fun ⟨t, b⟩ _ => ?_
  have hG : FnsOk Tryz.prog [(75, mWithin), (137, mGcd 0)] := .cons l01In_ok (.cons l02Gcd_ok .nil)
  refine callOk_of_awp (ctx_ok eqOk hG) mixed (live := [true, true, true]) (dt := []) Tryz.func76 rfl (by kernel_rfl) (by kernel_rfl) fun w0 => ?_
  by_cases h1 : -1000000000 ≤ t ∧ t ≤ 1000000000
  · by_cases h2 : 1 ≤ b ∧ b ≤ 1000000000
    · have hw : IntKind.i64.wrap (-t) = -t := wrapI (by omega) (by omega)
      simp [Tryz.f76, List.range, List.range.loop, h1, h2, frac, mWithin_at, hw, mGcd_at 0 (max t (-t)) b (by omega) (by omega) (by omega) (by omega), bool, fracOk]
      rw [gcd_abs, Bool.eq_iff_iff]; simp; omega
    · have h2' : (decide (1 ≤ b) && decide (b ≤ 1000000000)) = false := by simpa using h2
      simp [Tryz.f76, List.range, List.range.loop, h1, h2', frac, mWithin_at, bool, fracOk]
  · have h1' : (decide (-1000000000 ≤ t) && decide (t ≤ 1000000000)) = false := by simpa using h1
    simp [Tryz.f76, List.range, List.range.loop, h1', frac, mWithin_at, bool, fracOk]

def mWhole : List AV → Option AV
  | [.v (.int .i64 n)] => some (.agg [.v (.int .i64 n), .v (.int .i64 1)])
  | _ => none
theorem mWhole_at (n : Int) : mWhole [.v (.int .i64 n)] = some (.agg [.v (.int .i64 n), .v (.int .i64 1)]) := rfl

theorem whole_ok : FnOk Tryz.prog 134 mWhole := by
  intro args r h
  unfold mWhole at h
  split at h
  · rename_i n
    simp only [Option.some.injEq] at h; subst h
    refine callOk_of_awp (ctx_ok eqOk .nil) mixed (live := [true, false, true]) (dt := []) Tryz.func134 rfl (by kernel_rfl) (by kernel_rfl) fun w0 => ?_
    simp [Tryz.f134, List.range, List.range.loop]
  · simp at h

noncomputable def mId1 : List AV → Option AV := mk (fun _ => True) (fun (f : Int × Int) => [frac f]) (fun f => frac f)
theorem mId1_at (t b : Int) : mId1 [.agg [.v (.int .i64 t), .v (.int .i64 b)]] = some (.agg [.v (.int .i64 t), .v (.int .i64 b)]) :=
  mk_eq (enc := fun f => [frac f]) (x := (t, b)) (by intro x y h; simp [frac_inj] at h; simp [h]) trivial

noncomputable def mEqF : List AV → Option AV := mk (fun _ => True) (fun (p : (Int × Int) × (Int × Int)) => [frac p.1, frac p.2]) (fun p => bool (decide (p.1 = p.2)))
theorem mEqF_at (a b c d : Int) : mEqF [.agg [.v (.int .i64 a), .v (.int .i64 b)], .agg [.v (.int .i64 c), .v (.int .i64 d)]] = some (.v (.bool (decide ((a, b) = (c, d))))) :=
  mk_eq (enc := fun (p : (Int × Int) × (Int × Int)) => [frac p.1, frac p.2]) (x := ((a, b), (c, d))) (by rintro ⟨x, x'⟩ ⟨y, y'⟩ h; simp [frac_inj] at h; simp [h]) trivial

noncomputable def mSzF : List AV → Option AV := mk (fun p => p.2.1.length < 2 ^ 63 ∧ 0 ≤ p.2.2 ∧ p.2.2 ≤ 2 ^ 62) (fun (p : Bool × List (Int × Int) × Int) => [fracs p.1 p.2.1, int p.2.2]) (fun p => int (if p.2.2 < p.2.1.length then -1 else p.2.2 - p.2.1.length))
theorem mSzF_at (nl : Bool) (xs : List (Int × Int)) (l : Int) (h : xs.length < 2 ^ 63) (h1 : 0 ≤ l) (h2 : l ≤ 2 ^ 62) : mSzF [.sl nl 2 (xs.map frac), .v (.int .i64 l)] = some (.v (.int .i64 (if l < xs.length then -1 else l - xs.length))) :=
  mk_eq (enc := fun (p : Bool × List (Int × Int) × Int) => [fracs p.1 p.2.1, int p.2.2]) (x := (nl, xs, l)) (by rintro ⟨x, x', x''⟩ ⟨y, y', y''⟩ h; simp [fracs, int, map_frac_inj] at h; simp [h]) ⟨h, h1, h2⟩

end Go.Proofs.YtiieikknhheffaaGreatDoor.Ax

/-
  Contracts of the functions on lists of fractions. No condition.
-/
namespace Go.Proofs.YtiieikknhheffaaGreatDoor.Ax
open Go Go.RowKit
set_option linter.unusedSimpArgs false

/-- A row of which the first k elements are filled. -/
def filled {α : Type} (f : α → AV) (z : AV) (xs : List α) (k : Nat) : List AV := (xs.take k).map f ++ List.replicate (xs.length - k) z

section
variable {α : Type} {f : α → AV} {z : AV} {xs : List α} {k : Nat}
theorem filled_len (h : k ≤ xs.length) : (filled f z xs k).length = xs.length := by simp [filled]; omega
theorem filled_get (h : k < xs.length) : (filled f z xs k)[k]? = some z := by
  unfold filled
  rw [List.getElem?_append_right (by simp; omega), List.getElem?_replicate]
  have h1 : ((xs.take k).map f).length = k := by simp; omega
  rw [h1, if_pos (by omega)]
theorem filled_get' (h : k < xs.length) (hh : k < (filled f z xs k).length) : (filled f z xs k)[k] = z := by
  have := filled_get (f := f) (z := z) h
  rw [List.getElem?_eq_getElem hh] at this
  exact Option.some.inj this
theorem filled_set (h : k < xs.length) : (filled f z xs k).set k (f xs[k]) = filled f z xs (k + 1) := by
  unfold filled
  rw [List.take_succ_eq_append_getElem h, List.map_append, List.set_append]
  have hl : ((xs.take k).map f).length = k := by simp; omega
  rw [if_neg (by omega), hl, Nat.sub_self]
  obtain ⟨m, hm⟩ : ∃ m, xs.length - k = m + 1 := ⟨xs.length - k - 1, by omega⟩
  rw [hm, List.replicate_succ, show xs.length - (k + 1) = m by omega]
  simp
theorem filled_zero : filled f z xs 0 = List.replicate xs.length z := by simp [filled]
theorem filled_all : filled f z xs xs.length = xs.map f := by simp [filled]
end

noncomputable def mToFs : List AV → Option AV := mk (fun p => p.2.length ≤ 2 ^ 40) (fun (p : Bool × List (Int × Int)) => [fracs p.1 p.2]) (fun p => fracs false p.2)
theorem mToFs_at (nl : Bool) (xs : List (Int × Int)) (h : xs.length ≤ 2 ^ 40) : mToFs [.sl nl 2 (xs.map frac)] = some (.sl false 2 (xs.map frac)) :=
  mk_eq (enc := fun (p : Bool × List (Int × Int)) => [fracs p.1 p.2]) (x := (nl, xs)) (by rintro ⟨x, x'⟩ ⟨y, y'⟩ h; simp [fracs, map_frac_inj] at h; simp [h]) h

noncomputable def mEqFs : List AV → Option AV := mk (fun p => p.1.2.length ≤ 2 ^ 40 ∧ p.2.2.length ≤ 2 ^ 40) (fun (p : (Bool × List (Int × Int)) × (Bool × List (Int × Int))) => [fracs p.1.1 p.1.2, fracs p.2.1 p.2.2]) (fun p => bool (decide (p.1.2 = p.2.2)))
theorem mEqFs_at (nl nl' : Bool) (xs ys : List (Int × Int)) (h : xs.length ≤ 2 ^ 40) (h' : ys.length ≤ 2 ^ 40) : mEqFs [.sl nl 2 (xs.map frac), .sl nl' 2 (ys.map frac)] = some (.v (.bool (decide (xs = ys)))) :=
  mk_eq (enc := fun (p : (Bool × List (Int × Int)) × (Bool × List (Int × Int))) => [fracs p.1.1 p.1.2, fracs p.2.1 p.2.2]) (x := ((nl, xs), (nl', ys))) (by rintro ⟨⟨x, x'⟩, ⟨x'', x3⟩⟩ ⟨⟨y, y'⟩, ⟨y'', y3⟩⟩ h; simp [fracs, map_frac_inj] at h; simp [h]) ⟨h, h'⟩

/-- Two lists that agree up to k. -/
theorem take_eq_succ {α : Type} {xs ys : List α} {k : Nat} (h1 : k < xs.length) (h2 : k < ys.length) : xs.take (k + 1) = ys.take (k + 1) ↔ xs.take k = ys.take k ∧ xs[k] = ys[k] := by
  rw [List.take_succ_eq_append_getElem h1, List.take_succ_eq_append_getElem h2]
  constructor
  · intro h
    have := List.append_inj h (by simp; omega)
    simpa using this
  · rintro ⟨h, h'⟩; rw [h, h']

end Go.Proofs.YtiieikknhheffaaGreatDoor.Ax

/-
  What this seat's laws are handed: arguments of the types that they meet. No condition.
-/
namespace Go.Proofs.YtiieikknhheffaaGreatDoor.Ax
open Go Go.RowKit

theorem datInts {a : AV} (h : DatE Tryz.prog 35 a) : ∃ nl xs, a = ints nl xs ∧ xs.length ≤ maxLen ∧ ∀ x ∈ xs, (Lit.int .i64 x).wf = true :=
  h.ints Tryz.underlying35 Tryz.underlying3 (by kernel_rfl)

end Go.Proofs.YtiieikknhheffaaGreatDoor.Ax

/-
  Contracts of the functions on lists of ints. No condition.
-/
namespace Go.Proofs.YtiieikknhheffaaGreatDoor.Ax
open Go Go.RowKit
set_option linter.unusedSimpArgs false

noncomputable def mToIs : List AV → Option AV := mk (fun p => p.2.length ≤ 2 ^ 40) (fun (p : Bool × List Int) => [ints p.1 p.2]) (fun p => ints false p.2)
theorem mToIs_at (nl : Bool) (xs : List Int) (h : xs.length ≤ 2 ^ 40) : mToIs [.sl nl 1 (xs.map int)] = some (.sl false 1 (xs.map int)) :=
  mk_eq (enc := fun (p : Bool × List Int) => [ints p.1 p.2]) (x := (nl, xs)) (by rintro ⟨x, x'⟩ ⟨y, y'⟩ h; simp [ints, map_int_inj] at h; simp [h]) h

set_option maxHeartbeats 1000000 in
theorem toIntS_ok : FnOk Tryz.prog 149 mToIs := by
  refine mk_ok fun ⟨nl, xs⟩ hpre => ?_
  simp only at hpre
  refine callOk_of_awp (ctx_ok eqOk .nil) mixed (live := [true, false, true, true, true, false, false, false, false, false, false, true]) (dt := []) Tryz.func149 rfl (by kernel_rfl) (by kernel_rfl) fun w0 => ?_
  have hb : 8 * xs.length ≤ 281474976710656 := by omega
  have hn : xs.length ≤ 4611686018427387904 := by omega
  simp [Tryz.f149, List.range, List.range.loop, ints, hb, hn]
  refine awp_loop_of (ctx_ok eqOk .nil) mixed (live := [true, false, true, true, true, false, false, false, false, false, false, true]) [true, false, true, true, true] (α := {k : Nat // k ≤ xs.length})
    (fun k => ⟨[ints nl xs, .junk, .sl true 1 [], .ref 0 [] 0 xs.length, int k.1] ++ List.replicate 17 .junk, [⟨true, .sl false 1 (filled int (int 0) xs k.1)⟩]⟩) (fun k => xs.length - k.1) ⟨0, by omega⟩
    (by simp [sub, slotsLe, clean, keep, refsL, refs, once, place, renL, ren, List.replicate, int, bool, ints, filled_zero]) ?_
  rintro ⟨k, hk⟩
  by_cases h : k < xs.length
  · have hl := filled_len (f := int) (z := AV.v (.int .i64 0)) hk
    have hg := filled_get (f := int) (z := AV.v (.int .i64 0)) h
    have hg' := filled_get' (f := int) (z := AV.v (.int .i64 0)) h
    simp [List.range, List.range.loop, ints, int, h, List.replicate, hl, hg, hg']
    refine ⟨⟨k + 1, h⟩, ?_, by simp; omega⟩
    have hset := filled_set (f := int) (z := AV.v (.int .i64 0)) h
    simp only [int] at hset
    simp [sub, slotsLe, clean, keep, refsL, refs, once, place, renL, ren, List.replicate, int, bool, ints, hset, hl]
    exact wrapI (by omega) (by omega)
  · have hk' : k = xs.length := by omega
    subst hk'
    simp [List.range, List.range.loop, ints, int, h, List.replicate, filled_all]

noncomputable def mSzI : List AV → Option AV := mk (fun p => p.2.1.length < 2 ^ 63 ∧ 0 ≤ p.2.2 ∧ p.2.2 ≤ 2 ^ 62) (fun (p : Bool × List Int × Int) => [ints p.1 p.2.1, int p.2.2]) (fun p => int (if p.2.2 < p.2.1.length then -1 else p.2.2 - p.2.1.length))
theorem mSzI_at (nl : Bool) (xs : List Int) (l : Int) (h : xs.length < 2 ^ 63) (h1 : 0 ≤ l) (h2 : l ≤ 2 ^ 62) : mSzI [.sl nl 1 (xs.map int), .v (.int .i64 l)] = some (.v (.int .i64 (if l < xs.length then -1 else l - xs.length))) :=
  mk_eq (enc := fun (p : Bool × List Int × Int) => [ints p.1 p.2.1, int p.2.2]) (x := (nl, xs, l)) (by rintro ⟨x, x', x''⟩ ⟨y, y', y''⟩ h; simp [ints, int_inj, map_int_inj] at h; simp [h]) ⟨h, h1, h2⟩

theorem szIntS_ok : FnOk Tryz.prog 145 mSzI := by
  refine mk_ok fun ⟨nl, xs, l⟩ ⟨h1, h2, h3⟩ => ?_
  simp only at h1 h2 h3
  refine callOk_of_awp (ctx_ok eqOk .nil) mixed (live := [true, true, false, false, true, false, false, false, false, false, true]) (dt := []) Tryz.func145 rfl (by kernel_rfl) (by kernel_rfl) fun w0 => ?_
  have hw : IntKind.i64.wrap (l - xs.length) = l - xs.length := wrapI (by omega) (by omega)
  by_cases h : l < xs.length
  · have h' : l - xs.length < 0 := by omega
    simp [Tryz.f145, List.range, List.range.loop, ints, int, hw, h, h']
  · have h' : ¬ l - xs.length < 0 := by omega
    simp [Tryz.f145, List.range, List.range.loop, ints, int, hw, h, h']

noncomputable def mEqIs : List AV → Option AV := mk (fun p => p.1.2.length ≤ 2 ^ 40 ∧ p.2.2.length ≤ 2 ^ 40) (fun (p : (Bool × List Int) × (Bool × List Int)) => [ints p.1.1 p.1.2, ints p.2.1 p.2.2]) (fun p => bool (decide (p.1.2 = p.2.2)))
theorem mEqIs_at (nl nl' : Bool) (xs ys : List Int) (h : xs.length ≤ 2 ^ 40) (h' : ys.length ≤ 2 ^ 40) : mEqIs [.sl nl 1 (xs.map int), .sl nl' 1 (ys.map int)] = some (.v (.bool (decide (xs = ys)))) :=
  mk_eq (enc := fun (p : (Bool × List Int) × (Bool × List Int)) => [ints p.1.1 p.1.2, ints p.2.1 p.2.2]) (x := ((nl, xs), (nl', ys))) (by rintro ⟨⟨x, x'⟩, ⟨x'', x3⟩⟩ ⟨⟨y, y'⟩, ⟨y'', y3⟩⟩ h; simp [ints, map_int_inj] at h; simp [h]) ⟨h, h'⟩

set_option maxHeartbeats 1000000 in
theorem eqIntS_ok : FnOk Tryz.prog 154 mEqIs := by
  refine mk_ok fun ⟨⟨nl, xs⟩, ⟨nl', ys⟩⟩ ⟨hp, hp'⟩ => ?_
  simp only at hp hp'
  refine callOk_of_awp (ctx_ok eqOk .nil) mixed (live := [true, true, false, false, true, true, false, false, false, false, true, false, false, false, true, false, false, false, false, false, false, false, false, false, false, true]) (dt := [(6, ⟨[], [], []⟩)]) Tryz.func154 rfl (by kernel_rfl) (by kernel_rfl) fun w0 => ?_
  by_cases hl : xs.length = ys.length
  · simp [Tryz.f154, List.range, List.range.loop, ints, hl]
    refine awp_loop_of (ctx_ok eqOk .nil) mixed (live := [true, true, false, false, true, true, false, false, false, false, true, false, false, false, true, false, false, false, false, false, false, false, false, false, false, true]) [true, true, false, false, true, true] (α := {k : Nat // k ≤ ys.length ∧ xs.take k = ys.take k})
      (fun k => ⟨[ints nl xs, ints nl' ys, .junk, .junk, bool false, int k.1] ++ List.replicate 20 .junk, []⟩) (fun k => ys.length - k.1) ⟨0, by omega, by simp⟩
      (by simp [sub, slotsLe, clean, keep, refsL, refs, once, place, renL, ren, List.replicate, int, bool, ints]) ?_
    rintro ⟨k, hk, he⟩
    by_cases h : k < ys.length
    · have h' : k < xs.length := by omega
      by_cases hx : xs[k] = ys[k]
      · simp [List.range, List.range.loop, ints, int, bool, h, h', hl, List.replicate, hx]
        refine ⟨⟨k + 1, h, (take_eq_succ h' h).2 ⟨he, hx⟩⟩, ?_, by simp; omega⟩
        simp [sub, slotsLe, clean, keep, refsL, refs, once, place, renL, ren, List.replicate, int, bool, ints]
        exact wrapI (by omega) (by omega)
      · have hx' : (xs[k] != ys[k]) = true := by simpa using hx
        simp [List.range, List.range.loop, ints, int, bool, h, h', hl, List.replicate, hx, hx']
        intro e; subst e; exact hx rfl
    · have hk' : k = ys.length := by omega
      subst hk'
      simp [List.range, List.range.loop, ints, int, bool, h, hl, List.replicate]
      rw [List.take_of_length_le (by omega), List.take_of_length_le (by omega)] at he
      exact he
  · have hl' : ((xs.length : Int) != ys.length) = true := by simp; omega
    simp [Tryz.f154, List.range, List.range.loop, ints, hl, hl', bool]
    intro e; rw [e] at hl; exact hl rfl

end Go.Proofs.YtiieikknhheffaaGreatDoor.Ax

/-
  Contracts of the functions on lists of lists of ints. No condition.
-/
namespace Go.Proofs.YtiieikknhheffaaGreatDoor.Ax
open Go Go.RowKit
set_option linter.unusedSimpArgs false

/-- A row: is it nil, its numbers. -/
def row (p : Bool × List Int) : AV := .sl p.1 1 (p.2.map int)
def intss (nl : Bool) (xss : List (Bool × List Int)) : AV := .sl nl 1 (xss.map row)
theorem row_inj {p q : Bool × List Int} : row p = row q ↔ p = q := by
  obtain ⟨a, b⟩ := p; obtain ⟨c, d⟩ := q
  simp [row, map_int_inj]
theorem map_row_inj {a b : List (Bool × List Int)} : a.map row = b.map row ↔ a = b :=
  ⟨fun h => (List.map_inj_right (fun x y => row_inj.1)).1 h, fun h => by rw [h]⟩

theorem lens_row {r : Bool × List Int} : lens (.sl r.1 1 (r.2.map int)) ↔ r.2.length ≤ 9223372036854775807 ∧ (r.1 = true → r.2 = []) := lens_ints
theorem lens_intss {nl : Bool} {xss : List (Bool × List Int)} : lens (.sl nl 1 (xss.map row)) ↔ (xss.length ≤ 9223372036854775807 ∧ (nl = true → xss = [])) ∧ ∀ x ∈ xss, x.2.length ≤ 9223372036854775807 ∧ (x.1 = true → x.2 = []) := by
  simp only [lens, lensL_map, row, List.length_map, List.map_eq_nil_iff, lens_ints]

/-- How many numbers the first k rows hold. -/
def rowSum (xss : List (Bool × List Int)) (k : Nat) : Nat := ((xss.take k).map (·.2.length)).sum
theorem rowSum_zero {xss : List (Bool × List Int)} : rowSum xss 0 = 0 := by simp [rowSum]
theorem rowSum_succ {xss : List (Bool × List Int)} {k : Nat} (h : k < xss.length) : rowSum xss (k + 1) = rowSum xss k + xss[k].2.length := by
  unfold rowSum; rw [List.take_succ_eq_append_getElem h]; simp only [List.map_append, List.sum_append, List.map_cons, List.map_nil, List.sum_cons, List.sum_nil, Nat.add_zero]
theorem rowSum_mono {xss : List (Bool × List Int)} {k n : Nat} (h : k ≤ n) : rowSum xss k ≤ rowSum xss n := by
  induction n with
  | zero => obtain rfl : k = 0 := by omega
            exact Nat.le_refl _
  | succ n ih =>
    by_cases e : k = n + 1
    · rw [e]; exact Nat.le_refl _
    · refine Nat.le_trans (ih (by omega)) ?_
      by_cases hn : n < xss.length
      · rw [rowSum_succ hn]; omega
      · simp only [rowSum]; rw [List.take_of_length_le (by omega), List.take_of_length_le (by omega)]; exact Nat.le_refl _
def need (xss : List (Bool × List Int)) : Nat := xss.length + rowSum xss xss.length

noncomputable def mSzIss : List AV → Option AV := mk (fun p => p.2.1.length < 2 ^ 63 ∧ (∀ x ∈ p.2.1, x.2.length < 2 ^ 63) ∧ 0 ≤ p.2.2 ∧ p.2.2 ≤ 2 ^ 62) (fun (p : Bool × List (Bool × List Int) × Int) => [intss p.1 p.2.1, int p.2.2]) (fun p => int (if p.2.2 < need p.2.1 then -1 else p.2.2 - need p.2.1))
theorem mSzIss_at (nl : Bool) (xss : List (Bool × List Int)) (l : Int) (h : xss.length < 2 ^ 63) (h' : ∀ x ∈ xss, x.2.length < 2 ^ 63) (h1 : 0 ≤ l) (h2 : l ≤ 2 ^ 62) : mSzIss [.sl nl 1 (xss.map row), .v (.int .i64 l)] = some (.v (.int .i64 (if l < need xss then -1 else l - need xss))) :=
  mk_eq (enc := fun (p : Bool × List (Bool × List Int) × Int) => [intss p.1 p.2.1, int p.2.2]) (x := (nl, xss, l)) (by rintro ⟨x, x', x''⟩ ⟨y, y', y''⟩ h; simp [intss, int_inj, map_row_inj] at h; simp [h]) ⟨h, h', h1, h2⟩

/-- A row of the call's own. -/
def orow (p : Bool × List Int) : AV := .sl false 1 (p.2.map int)
def own (xss : List (Bool × List Int)) : List (Bool × List Int) := xss.map fun p => (false, p.2)
theorem own_len {xss : List (Bool × List Int)} : (own xss).length = xss.length := by simp [own]
theorem map_orow {xss : List (Bool × List Int)} : xss.map orow = (own xss).map row := by simp [own, orow, row]
def small (xss : List (Bool × List Int)) : Prop := xss.length ≤ 2 ^ 40 ∧ ∀ x ∈ xss, x.2.length ≤ 2 ^ 40

noncomputable def mToIss : List AV → Option AV := mk (fun p => small p.2) (fun (p : Bool × List (Bool × List Int)) => [intss p.1 p.2]) (fun p => intss false (own p.2))
theorem mToIss_at (nl : Bool) (xss : List (Bool × List Int)) (h : small xss) : mToIss [.sl nl 1 (xss.map row)] = some (.sl false 1 ((own xss).map row)) :=
  mk_eq (enc := fun (p : Bool × List (Bool × List Int)) => [intss p.1 p.2]) (x := (nl, xss)) (by rintro ⟨x, x'⟩ ⟨y, y'⟩ h; simp [intss, map_row_inj] at h; simp [h]) h

theorem take_eq_nums {xss yss : List (Bool × List Int)} {k : Nat} (h1 : k < xss.length) (h2 : k < yss.length) : (xss.take (k + 1)).map (·.2) = (yss.take (k + 1)).map (·.2) ↔ (xss.take k).map (·.2) = (yss.take k).map (·.2) ∧ xss[k].2 = yss[k].2 := by
  rw [List.take_succ_eq_append_getElem h1, List.take_succ_eq_append_getElem h2, List.map_append, List.map_append]
  constructor
  · intro h
    have := List.append_inj h (by simp; omega)
    simpa using this
  · rintro ⟨h, h'⟩; rw [h]; simp [h']

noncomputable def mEqIss : List AV → Option AV := mk (fun p => small p.1.2 ∧ small p.2.2) (fun (p : (Bool × List (Bool × List Int)) × (Bool × List (Bool × List Int))) => [intss p.1.1 p.1.2, intss p.2.1 p.2.2]) (fun p => bool (decide (p.1.2.map (·.2) = p.2.2.map (·.2))))
theorem mEqIss_at (nl nl' : Bool) (xs ys : List (Bool × List Int)) (h : small xs) (h' : small ys) : mEqIss [.sl nl 1 (xs.map row), .sl nl' 1 (ys.map row)] = some (.v (.bool (decide (xs.map (·.2) = ys.map (·.2))))) :=
  mk_eq (enc := fun (p : (Bool × List (Bool × List Int)) × (Bool × List (Bool × List Int))) => [intss p.1.1 p.1.2, intss p.2.1 p.2.2]) (x := ((nl, xs), (nl', ys))) (by rintro ⟨⟨x, x'⟩, ⟨x'', x3⟩⟩ ⟨⟨y, y'⟩, ⟨y'', y3⟩⟩ h; simp [intss, map_row_inj] at h; simp [h]) ⟨h, h'⟩

end Go.Proofs.YtiieikknhheffaaGreatDoor.Ax

/-
  What this seat's laws are handed: lists of lists of ints; facts on the program. No condition.
-/
namespace Go.Proofs.YtiieikknhheffaaGreatDoor.Ax
open Go Go.RowKit

theorem ownP : ownKnob Tryz.prog.godebug = none := by kernel_rfl
theorem laidOutP : laidOutB Tryz.prog = true := by kernel_rfl

theorem datIntss {a : AV} (h : DatE Tryz.prog 44 a) : ∃ nl xss, a = intss nl xss ∧ xss.length ≤ maxLen ∧ ∀ x ∈ xss, x.2.length ≤ maxLen ∧ ∀ n ∈ x.2, (Lit.int .i64 n).wf = true := by
  obtain ⟨nl, es, rfl, hl, hes⟩ := h.slice Tryz.underlying44
  obtain ⟨xs, rfl, hx⟩ := list_of (f := row) (Q := fun x => x.2.length ≤ maxLen ∧ ∀ n ∈ x.2, (Lit.int .i64 n).wf = true) (fun x hx => by
    obtain ⟨nl, xs, rfl, h1, h2⟩ := datInts (hes x hx)
    exact ⟨(nl, xs), rfl, h1, h2⟩)
  exact ⟨nl, xs, by rw [show Tryz.prog.cellsOf 35 = 1 from by kernel_rfl]; rfl, by simpa using hl, hx⟩

end Go.Proofs.YtiieikknhheffaaGreatDoor.Ax
