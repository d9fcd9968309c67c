/-
  What this seat's program says of the types that the proofs meet. No condition.
-/
import Derived.Test.YtigepnpiofcooaaGreatDoorCK4
import Derived.Test.YtigepnpiofcooaaGreatDoorProg
import Derived.Test.YtigepnpiofcooaaGreatDoorRows
namespace Go.Proofs.YtigepnpiofcooaaGreatDoor.Ax
open Go Go.RowKit
theorem ty2 : tyOf Tryz.prog 2 = some ({ desc := TypeDesc.int IntKind.i64, size := 1, bytes := 8, zero := Value.int IntKind.i64 0 } : TI) := by kernel_rfl
theorem ty3 : tyOf Tryz.prog 3 = some ({ desc := TypeDesc.int IntKind.i64, size := 1, bytes := 8, zero := Value.int IntKind.i64 0 } : TI) := by kernel_rfl
theorem ty4 : tyOf Tryz.prog 4 = some ({ desc := TypeDesc.bool, size := 1, bytes := 1, zero := Value.bool false } : TI) := by kernel_rfl
theorem ty5 : tyOf Tryz.prog 5 = some ({ desc := TypeDesc.int IntKind.u8, size := 1, bytes := 1, zero := Value.int IntKind.u8 0 } : TI) := by kernel_rfl
theorem ty9 : tyOf Tryz.prog 9 = some ({ desc := TypeDesc.string, size := 1, bytes := 16, zero := Value.string ⟨#[]⟩ } : TI) := by kernel_rfl
theorem ty12 : tyOf Tryz.prog 12 = some ({ desc := TypeDesc.int IntKind.u64, size := 1, bytes := 8, zero := Value.int IntKind.u64 0 } : TI) := by kernel_rfl
theorem ty21 : tyOf Tryz.prog 21 = some ({ desc := TypeDesc.int IntKind.i32, size := 1, bytes := 4, zero := Value.int IntKind.i32 0 } : TI) := by kernel_rfl
theorem ty22 : tyOf Tryz.prog 22 = some ({ desc := TypeDesc.slice 39, size := 1, bytes := 24, zero := Value.slice none 0 0 } : TI) := by kernel_rfl
theorem ty23 : tyOf Tryz.prog 23 = some ({ desc := TypeDesc.struct #[{ name := "Size", type := 3, offset := 0, embedded := false, tag := "", pkgPath := "", byteOffset := 0 }, { name := "Votes", type := 22, offset := 1, embedded := false, tag := "", pkgPath := "", byteOffset := 8 }], size := 2, bytes := 32, zero := Value.agg #[Value.int IntKind.i64 0, Value.slice none 0 0] } : TI) := by kernel_rfl
theorem ty24 : tyOf Tryz.prog 24 = some ({ desc := TypeDesc.struct #[{ name := "Size", type := 3, offset := 0, embedded := false, tag := "", pkgPath := "", byteOffset := 0 }, { name := "Votes", type := 22, offset := 1, embedded := false, tag := "", pkgPath := "", byteOffset := 8 }], size := 2, bytes := 32, zero := Value.agg #[Value.int IntKind.i64 0, Value.slice none 0 0] } : TI) := by kernel_rfl
theorem ty35 : tyOf Tryz.prog 35 = some ({ desc := TypeDesc.slice 9, size := 1, bytes := 24, zero := Value.slice none 0 0 } : TI) := by kernel_rfl
theorem ty37 : tyOf Tryz.prog 37 = some ({ desc := TypeDesc.slice 3, size := 1, bytes := 24, zero := Value.slice none 0 0 } : TI) := by kernel_rfl
theorem ty38 : tyOf Tryz.prog 38 = some ({ desc := TypeDesc.struct #[{ name := "Ranking", type := 37, offset := 0, embedded := false, tag := "", pkgPath := "", byteOffset := 0 }, { name := "Count", type := 3, offset := 1, embedded := false, tag := "", pkgPath := "", byteOffset := 24 }], size := 2, bytes := 32, zero := Value.agg #[Value.slice none 0 0, Value.int IntKind.i64 0] } : TI) := by kernel_rfl
theorem ty39 : tyOf Tryz.prog 39 = some ({ desc := TypeDesc.struct #[{ name := "Ranking", type := 37, offset := 0, embedded := false, tag := "", pkgPath := "", byteOffset := 0 }, { name := "Count", type := 3, offset := 1, embedded := false, tag := "", pkgPath := "", byteOffset := 24 }], size := 2, bytes := 32, zero := Value.agg #[Value.slice none 0 0, Value.int IntKind.i64 0] } : TI) := by kernel_rfl
theorem ty47 : tyOf Tryz.prog 47 = some ({ desc := TypeDesc.func #[55] #[] false, size := 1, bytes := 8, zero := Value.nilFunc } : TI) := by kernel_rfl
theorem ty62 : tyOf Tryz.prog 62 = some ({ desc := TypeDesc.interface #[("Error", 100)], size := 1, bytes := 16, zero := Value.nilIface } : TI) := by kernel_rfl
theorem ty68 : tyOf Tryz.prog 68 = some ({ desc := TypeDesc.slice 5, size := 1, bytes := 24, zero := Value.slice none 0 0 } : TI) := by kernel_rfl
theorem ty69 : tyOf Tryz.prog 69 = some ({ desc := TypeDesc.slice 4, size := 1, bytes := 24, zero := Value.slice none 0 0 } : TI) := by kernel_rfl
theorem ty77 : tyOf Tryz.prog 77 = some ({ desc := TypeDesc.int IntKind.i64, size := 1, bytes := 8, zero := Value.int IntKind.i64 0 } : TI) := by kernel_rfl
theorem ty87 : tyOf Tryz.prog 87 = some ({ desc := TypeDesc.int IntKind.u64, size := 1, bytes := 8, zero := Value.int IntKind.u64 0 } : TI) := by kernel_rfl
theorem ty88 : tyOf Tryz.prog 88 = some ({ desc := TypeDesc.int IntKind.u64, size := 1, bytes := 8, zero := Value.int IntKind.u64 0 } : TI) := by kernel_rfl
theorem ty92 : tyOf Tryz.prog 92 = some ({ desc := TypeDesc.struct #[{ name := "Func", type := 9, offset := 0, embedded := false, tag := "", pkgPath := "", byteOffset := 0 }, { name := "Num", type := 9, offset := 1, embedded := false, tag := "", pkgPath := "", byteOffset := 16 }, { name := "Err", type := 62, offset := 2, embedded := false, tag := "", pkgPath := "", byteOffset := 32 }], size := 3, bytes := 48, zero := Value.agg #[Value.string ⟨#[]⟩, Value.string ⟨#[]⟩, Value.nilIface] } : TI) := by kernel_rfl
theorem ty93 : tyOf Tryz.prog 93 = some ({ desc := TypeDesc.struct #[{ name := "Func", type := 9, offset := 0, embedded := false, tag := "", pkgPath := "", byteOffset := 0 }, { name := "Num", type := 9, offset := 1, embedded := false, tag := "", pkgPath := "", byteOffset := 16 }, { name := "Err", type := 62, offset := 2, embedded := false, tag := "", pkgPath := "", byteOffset := 32 }], size := 3, bytes := 48, zero := Value.agg #[Value.string ⟨#[]⟩, Value.string ⟨#[]⟩, Value.nilIface] } : TI) := by kernel_rfl
theorem ty97 : tyOf Tryz.prog 97 = some ({ desc := TypeDesc.struct #[{ name := "addr", type := 96, offset := 0, embedded := false, tag := "", pkgPath := "strings", byteOffset := 0 }, { name := "buf", type := 68, offset := 1, embedded := false, tag := "", pkgPath := "strings", byteOffset := 8 }], size := 2, bytes := 32, zero := Value.agg #[Value.pointer none, Value.slice none 0 0] } : TI) := by kernel_rfl
theorem ty98 : tyOf Tryz.prog 98 = some ({ desc := TypeDesc.struct #[{ name := "addr", type := 96, offset := 0, embedded := false, tag := "", pkgPath := "strings", byteOffset := 0 }, { name := "buf", type := 68, offset := 1, embedded := false, tag := "", pkgPath := "strings", byteOffset := 8 }], size := 2, bytes := 32, zero := Value.agg #[Value.pointer none, Value.slice none 0 0] } : TI) := by kernel_rfl
theorem ty102 : tyOf Tryz.prog 102 = some ({ desc := TypeDesc.struct #[{ name := "lo", type := 5, offset := 0, embedded := false, tag := "", pkgPath := "unicode/utf8", byteOffset := 0 }, { name := "hi", type := 5, offset := 1, embedded := false, tag := "", pkgPath := "unicode/utf8", byteOffset := 1 }], size := 2, bytes := 2, zero := Value.agg #[Value.int IntKind.u8 0, Value.int IntKind.u8 0] } : TI) := by kernel_rfl
theorem ty103 : tyOf Tryz.prog 103 = some ({ desc := TypeDesc.struct #[{ name := "lo", type := 5, offset := 0, embedded := false, tag := "", pkgPath := "unicode/utf8", byteOffset := 0 }, { name := "hi", type := 5, offset := 1, embedded := false, tag := "", pkgPath := "unicode/utf8", byteOffset := 1 }], size := 2, bytes := 2, zero := Value.agg #[Value.int IntKind.u8 0, Value.int IntKind.u8 0] } : TI) := by kernel_rfl
theorem ty104 : tyOf Tryz.prog 104 = some ({ desc := TypeDesc.array 16 103, size := 32, bytes := 32, zero := Value.agg #[Value.int IntKind.u8 0, Value.int IntKind.u8 0, Value.int IntKind.u8 0, Value.int IntKind.u8 0, Value.int IntKind.u8 0, Value.int IntKind.u8 0, Value.int IntKind.u8 0, Value.int IntKind.u8 0, Value.int IntKind.u8 0, Value.int IntKind.u8 0, Value.int IntKind.u8 0, Value.int IntKind.u8 0, Value.int IntKind.u8 0, Value.int IntKind.u8 0, Value.int IntKind.u8 0, Value.int IntKind.u8 0, Value.int IntKind.u8 0, Value.int IntKind.u8 0, Value.int IntKind.u8 0, Value.int IntKind.u8 0, Value.int IntKind.u8 0, Value.int IntKind.u8 0, Value.int IntKind.u8 0, Value.int IntKind.u8 0, Value.int IntKind.u8 0, Value.int IntKind.u8 0, Value.int IntKind.u8 0, Value.int IntKind.u8 0, Value.int IntKind.u8 0, Value.int IntKind.u8 0, Value.int IntKind.u8 0, Value.int IntKind.u8 0] } : TI) := by kernel_rfl
theorem ty105 : tyOf Tryz.prog 105 = some ({ desc := TypeDesc.int IntKind.u32, size := 1, bytes := 4, zero := Value.int IntKind.u32 0 } : TI) := by kernel_rfl
theorem ty111 : tyOf Tryz.prog 111 = some ({ desc := TypeDesc.struct #[{ name := "s", type := 9, offset := 0, embedded := false, tag := "", pkgPath := "errors", byteOffset := 0 }], size := 1, bytes := 16, zero := Value.agg #[Value.string ⟨#[]⟩] } : TI) := by kernel_rfl
theorem ty112 : tyOf Tryz.prog 112 = some ({ desc := TypeDesc.struct #[{ name := "s", type := 9, offset := 0, embedded := false, tag := "", pkgPath := "errors", byteOffset := 0 }], size := 1, bytes := 16, zero := Value.agg #[Value.string ⟨#[]⟩] } : TI) := by kernel_rfl
theorem ty113 : tyOf Tryz.prog 113 = some ({ desc := TypeDesc.array 24 5, size := 24, bytes := 24, zero := Value.agg #[Value.int IntKind.u8 0, Value.int IntKind.u8 0, Value.int IntKind.u8 0, Value.int IntKind.u8 0, Value.int IntKind.u8 0, Value.int IntKind.u8 0, Value.int IntKind.u8 0, Value.int IntKind.u8 0, Value.int IntKind.u8 0, Value.int IntKind.u8 0, Value.int IntKind.u8 0, Value.int IntKind.u8 0, Value.int IntKind.u8 0, Value.int IntKind.u8 0, Value.int IntKind.u8 0, Value.int IntKind.u8 0, Value.int IntKind.u8 0, Value.int IntKind.u8 0, Value.int IntKind.u8 0, Value.int IntKind.u8 0, Value.int IntKind.u8 0, Value.int IntKind.u8 0, Value.int IntKind.u8 0, Value.int IntKind.u8 0] } : TI) := by kernel_rfl
theorem ty119 : tyOf Tryz.prog 119 = some ({ desc := TypeDesc.array 20 88, size := 20, bytes := 160, zero := Value.agg #[Value.int IntKind.u64 0, Value.int IntKind.u64 0, Value.int IntKind.u64 0, Value.int IntKind.u64 0, Value.int IntKind.u64 0, Value.int IntKind.u64 0, Value.int IntKind.u64 0, Value.int IntKind.u64 0, Value.int IntKind.u64 0, Value.int IntKind.u64 0, Value.int IntKind.u64 0, Value.int IntKind.u64 0, Value.int IntKind.u64 0, Value.int IntKind.u64 0, Value.int IntKind.u64 0, Value.int IntKind.u64 0, Value.int IntKind.u64 0, Value.int IntKind.u64 0, Value.int IntKind.u64 0, Value.int IntKind.u64 0] } : TI) := by kernel_rfl
theorem ty120 : tyOf Tryz.prog 120 = some ({ desc := TypeDesc.array 65 5, size := 65, bytes := 65, zero := Value.agg #[Value.int IntKind.u8 0, Value.int IntKind.u8 0, Value.int IntKind.u8 0, Value.int IntKind.u8 0, Value.int IntKind.u8 0, Value.int IntKind.u8 0, Value.int IntKind.u8 0, Value.int IntKind.u8 0, Value.int IntKind.u8 0, Value.int IntKind.u8 0, Value.int IntKind.u8 0, Value.int IntKind.u8 0, Value.int IntKind.u8 0, Value.int IntKind.u8 0, Value.int IntKind.u8 0, Value.int IntKind.u8 0, Value.int IntKind.u8 0, Value.int IntKind.u8 0, Value.int IntKind.u8 0, Value.int IntKind.u8 0, Value.int IntKind.u8 0, Value.int IntKind.u8 0, Value.int IntKind.u8 0, Value.int IntKind.u8 0, Value.int IntKind.u8 0, Value.int IntKind.u8 0, Value.int IntKind.u8 0, Value.int IntKind.u8 0, Value.int IntKind.u8 0, Value.int IntKind.u8 0, Value.int IntKind.u8 0, Value.int IntKind.u8 0, Value.int IntKind.u8 0, Value.int IntKind.u8 0, Value.int IntKind.u8 0, Value.int IntKind.u8 0, Value.int IntKind.u8 0, Value.int IntKind.u8 0, Value.int IntKind.u8 0, Value.int IntKind.u8 0, Value.int IntKind.u8 0, Value.int IntKind.u8 0, Value.int IntKind.u8 0, Value.int IntKind.u8 0, Value.int IntKind.u8 0, Value.int IntKind.u8 0, Value.int IntKind.u8 0, Value.int IntKind.u8 0, Value.int IntKind.u8 0, Value.int IntKind.u8 0, Value.int IntKind.u8 0, Value.int IntKind.u8 0, Value.int IntKind.u8 0, Value.int IntKind.u8 0, Value.int IntKind.u8 0, Value.int IntKind.u8 0, Value.int IntKind.u8 0, Value.int IntKind.u8 0, Value.int IntKind.u8 0, Value.int IntKind.u8 0, Value.int IntKind.u8 0, Value.int IntKind.u8 0, Value.int IntKind.u8 0, Value.int IntKind.u8 0, Value.int IntKind.u8 0] } : TI) := by kernel_rfl
theorem ty127 : tyOf Tryz.prog 127 = some ({ desc := TypeDesc.array 32 5, size := 32, bytes := 32, zero := Value.agg #[Value.int IntKind.u8 0, Value.int IntKind.u8 0, Value.int IntKind.u8 0, Value.int IntKind.u8 0, Value.int IntKind.u8 0, Value.int IntKind.u8 0, Value.int IntKind.u8 0, Value.int IntKind.u8 0, Value.int IntKind.u8 0, Value.int IntKind.u8 0, Value.int IntKind.u8 0, Value.int IntKind.u8 0, Value.int IntKind.u8 0, Value.int IntKind.u8 0, Value.int IntKind.u8 0, Value.int IntKind.u8 0, Value.int IntKind.u8 0, Value.int IntKind.u8 0, Value.int IntKind.u8 0, Value.int IntKind.u8 0, Value.int IntKind.u8 0, Value.int IntKind.u8 0, Value.int IntKind.u8 0, Value.int IntKind.u8 0, Value.int IntKind.u8 0, Value.int IntKind.u8 0, Value.int IntKind.u8 0, Value.int IntKind.u8 0, Value.int IntKind.u8 0, Value.int IntKind.u8 0, Value.int IntKind.u8 0, Value.int IntKind.u8 0] } : TI) := by kernel_rfl
theorem ty128 : tyOf Tryz.prog 128 = some ({ desc := TypeDesc.array 64 5, size := 64, bytes := 64, zero := Value.agg #[Value.int IntKind.u8 0, Value.int IntKind.u8 0, Value.int IntKind.u8 0, Value.int IntKind.u8 0, Value.int IntKind.u8 0, Value.int IntKind.u8 0, Value.int IntKind.u8 0, Value.int IntKind.u8 0, Value.int IntKind.u8 0, Value.int IntKind.u8 0, Value.int IntKind.u8 0, Value.int IntKind.u8 0, Value.int IntKind.u8 0, Value.int IntKind.u8 0, Value.int IntKind.u8 0, Value.int IntKind.u8 0, Value.int IntKind.u8 0, Value.int IntKind.u8 0, Value.int IntKind.u8 0, Value.int IntKind.u8 0, Value.int IntKind.u8 0, Value.int IntKind.u8 0, Value.int IntKind.u8 0, Value.int IntKind.u8 0, Value.int IntKind.u8 0, Value.int IntKind.u8 0, Value.int IntKind.u8 0, Value.int IntKind.u8 0, Value.int IntKind.u8 0, Value.int IntKind.u8 0, Value.int IntKind.u8 0, Value.int IntKind.u8 0, Value.int IntKind.u8 0, Value.int IntKind.u8 0, Value.int IntKind.u8 0, Value.int IntKind.u8 0, Value.int IntKind.u8 0, Value.int IntKind.u8 0, Value.int IntKind.u8 0, Value.int IntKind.u8 0, Value.int IntKind.u8 0, Value.int IntKind.u8 0, Value.int IntKind.u8 0, Value.int IntKind.u8 0, Value.int IntKind.u8 0, Value.int IntKind.u8 0, Value.int IntKind.u8 0, Value.int IntKind.u8 0, Value.int IntKind.u8 0, Value.int IntKind.u8 0, Value.int IntKind.u8 0, Value.int IntKind.u8 0, Value.int IntKind.u8 0, Value.int IntKind.u8 0, Value.int IntKind.u8 0, Value.int IntKind.u8 0, Value.int IntKind.u8 0, Value.int IntKind.u8 0, Value.int IntKind.u8 0, Value.int IntKind.u8 0, Value.int IntKind.u8 0, Value.int IntKind.u8 0, Value.int IntKind.u8 0, Value.int IntKind.u8 0] } : TI) := by kernel_rfl
theorem ty133 : tyOf Tryz.prog 133 = some ({ desc := TypeDesc.array 0 16, size := 0, bytes := 0, zero := Value.agg #[] } : TI) := by kernel_rfl
theorem ty142 : tyOf Tryz.prog 142 = some ({ desc := TypeDesc.struct #[{ name := "Size_", type := 12, offset := 0, embedded := false, tag := "", pkgPath := "", byteOffset := 0 }, { name := "PtrBytes", type := 12, offset := 1, embedded := false, tag := "", pkgPath := "", byteOffset := 8 }, { name := "Hash", type := 105, offset := 2, embedded := false, tag := "", pkgPath := "", byteOffset := 16 }, { name := "TFlag", type := 137, offset := 3, embedded := false, tag := "", pkgPath := "", byteOffset := 20 }, { name := "Align_", type := 5, offset := 4, embedded := false, tag := "", pkgPath := "", byteOffset := 21 }, { name := "FieldAlign_", type := 5, offset := 5, embedded := false, tag := "", pkgPath := "", byteOffset := 22 }, { name := "Kind_", type := 138, offset := 6, embedded := false, tag := "", pkgPath := "", byteOffset := 23 }, { name := "Equal", type := 139, offset := 7, embedded := false, tag := "", pkgPath := "", byteOffset := 24 }, { name := "GCData", type := 109, offset := 8, embedded := false, tag := "", pkgPath := "", byteOffset := 32 }, { name := "Str", type := 140, offset := 9, embedded := false, tag := "", pkgPath := "", byteOffset := 40 }, { name := "PtrToThis", type := 141, offset := 10, embedded := false, tag := "", pkgPath := "", byteOffset := 44 }], size := 11, bytes := 48, zero := Value.agg #[Value.int IntKind.u64 0, Value.int IntKind.u64 0, Value.int IntKind.u32 0, Value.int IntKind.u8 0, Value.int IntKind.u8 0, Value.int IntKind.u8 0, Value.int IntKind.u8 0, Value.nilFunc, Value.pointer none, Value.int IntKind.i32 0, Value.int IntKind.i32 0] } : TI) := by kernel_rfl
theorem ty144 : tyOf Tryz.prog 144 = some ({ desc := TypeDesc.struct #[{ name := "msg", type := 9, offset := 0, embedded := false, tag := "", pkgPath := "fmt", byteOffset := 0 }, { name := "err", type := 62, offset := 1, embedded := false, tag := "", pkgPath := "fmt", byteOffset := 16 }], size := 2, bytes := 32, zero := Value.agg #[Value.string ⟨#[]⟩, Value.nilIface] } : TI) := by kernel_rfl
theorem ty145 : tyOf Tryz.prog 145 = some ({ desc := TypeDesc.struct #[{ name := "msg", type := 9, offset := 0, embedded := false, tag := "", pkgPath := "fmt", byteOffset := 0 }, { name := "err", type := 62, offset := 1, embedded := false, tag := "", pkgPath := "fmt", byteOffset := 16 }], size := 2, bytes := 32, zero := Value.agg #[Value.string ⟨#[]⟩, Value.nilIface] } : TI) := by kernel_rfl
theorem ty146 : tyOf Tryz.prog 146 = some ({ desc := TypeDesc.slice 62, size := 1, bytes := 24, zero := Value.slice none 0 0 } : TI) := by kernel_rfl
theorem ty147 : tyOf Tryz.prog 147 = some ({ desc := TypeDesc.struct #[{ name := "msg", type := 9, offset := 0, embedded := false, tag := "", pkgPath := "fmt", byteOffset := 0 }, { name := "errs", type := 146, offset := 1, embedded := false, tag := "", pkgPath := "fmt", byteOffset := 16 }], size := 2, bytes := 40, zero := Value.agg #[Value.string ⟨#[]⟩, Value.slice none 0 0] } : TI) := by kernel_rfl
theorem ty148 : tyOf Tryz.prog 148 = some ({ desc := TypeDesc.struct #[{ name := "msg", type := 9, offset := 0, embedded := false, tag := "", pkgPath := "fmt", byteOffset := 0 }, { name := "errs", type := 146, offset := 1, embedded := false, tag := "", pkgPath := "fmt", byteOffset := 16 }], size := 2, bytes := 40, zero := Value.agg #[Value.string ⟨#[]⟩, Value.slice none 0 0] } : TI) := by kernel_rfl
def eqT : TypeId → Option Nat := fun _ => none
theorem eqOk : ∀ t n, eqT t = some n → EqOk Tryz.prog t n := fun _ _ h => by simp [eqT] at h
attribute [simp] awp_skip awp_seq awp_block awp_exit awp_ret awp_loop awp_rangeF awp_region awp_cond contS_normal contS_exit contS_ret inB_normal inB_exit inB_ret loopS_normal loopS_exit loopS_ret doneS_normal doneS_ret regS_some condS_bool bindS_some rrun_nil rrun_cons outD_some stepG_some rstep_eq callOut_some callOut_none mutCall_none movCall_none frzCall_none frzCall_some alt_none alt_some regrun_false regrun_true noLd_dt mkLd_dt frzLd_dt ldR_dt dtGet rdraw_eq rrunD_nil rrunD_cons contD_eq rstepD_eq outDr_some outC_zero outC_succ needs chk stR opR jk jkL meets appO appU upX shf nums sets Op.operands Call.operands noM_mk callV_fn aop_call take_map_all guardOk aop ev putD ofV ofV1 Value.oneCell' asNat abin aun pickAV scal frz nilS nilC TypeDesc.aggB AV.cells lenAV getAt loadCell loadCells res resL intern internL putCells ownR ownRL ownV ownA wholeB wholeP isAgg1 drops flat kill killL killN killNL clean keep refsL refs once place renL ren ctx G resOk resVars resVar pack viewEs bndOf appX appY ty2 ty3 ty4 ty5 ty9 ty12 ty21 ty22 ty23 ty24 ty35 ty37 ty38 ty39 ty47 ty62 ty68 ty69 ty77 ty87 ty88 ty92 ty93 ty97 ty98 ty102 ty103 ty104 ty105 ty111 ty112 ty113 ty119 ty120 ty127 ty128 ty133 ty142 ty144 ty145 ty146 ty147 ty148 eqT cellInts bld partOk nilAV bytesOf regS_ite allS_map allS_v allS_rep pickAV_bool nn1 tn1 nz1 nz1' lt1 sub slotsLe rngS_normal rngS_exit rngS_ret ctxV ctxH GH GM GV doneF_normal doneF_ret resVarsF resVarF mutCall movCall others setAt setCell ctxM resM doneM_normal doneM_ret
theorem mixed : Tryz.prog.follows .mixedOrders = true := by kernel_rfl
end Go.Proofs.YtigepnpiofcooaaGreatDoor.Ax
namespace Go.Proofs.YtigepnpiofcooaaGreatDoor.Ax
open Go Go.RowKit
def mWithin : List AV → Option AV
  | [.v (.int .i64 n), .v (.int .i64 lo), .v (.int .i64 hi)] => some (.v (.bool (decide (lo ≤ n) && decide (n ≤ hi))))
  | _ => none
set_option linter.unusedSimpArgs false
set_option maxHeartbeats 400000 in
theorem within_ok : FnOk Tryz.prog 49 mWithin := by
  intro args r h
  unfold mWithin at h
  split at h
  · rename_i n lo hi
    simp only [Option.some.injEq] at h; subst h
    refine callOk_of_awp (ctx_ok eqOk .nil) mixed (live := [true, true, true, false, false, false, true]) (dt := []) Tryz.func49 rfl (by kernel_rfl) (by kernel_rfl) fun w0 => ?_
    by_cases h : lo ≤ n
    · simp [Tryz.f49, List.range, List.range.loop, h]
    · simp [Tryz.f49, List.range, List.range.loop, h]
  · simp at h
end Go.Proofs.YtigepnpiofcooaaGreatDoor.Ax
namespace Go.Proofs.YtigepnpiofcooaaGreatDoor.Ax
open Go Go.RowKit
set_option linter.unusedSimpArgs false
set_option maxHeartbeats 400000 in
theorem l01In_ok : FnOk Tryz.prog 31 mWithin := by
  intro args r h
  unfold mWithin at h
  split at h
  · rename_i n lo hi
    simp only [Option.some.injEq] at h; subst h
    refine callOk_of_awp (ctx_ok eqOk .nil) mixed (live := [true, true, true, false, false, false, true]) (dt := []) Tryz.func31 rfl (by kernel_rfl) (by kernel_rfl) fun w0 => ?_
    by_cases h : lo ≤ n
    · simp [Tryz.f31, List.range, List.range.loop, h]
    · simp [Tryz.f31, List.range, List.range.loop, h]
  · simp at h
def frac (f : Int × Int) : AV := .agg [.v (.int .i64 f.1), .v (.int .i64 f.2)]
def fracs (nl : Bool) (xs : List (Int × Int)) : AV := .sl nl 2 (xs.map frac)
theorem frac_inj {a b : Int × Int} : frac a = frac b ↔ a = b := by
  obtain ⟨a, a'⟩ := a; obtain ⟨b, b'⟩ := b; simp [frac]
theorem map_frac_inj {a b : List (Int × Int)} : a.map frac = b.map frac ↔ a = b := by
  constructor
  · intro h; exact (List.map_inj_right (fun x y => frac_inj.1)).1 h
  · rintro rfl; rfl
def fracOk (f : Int × Int) : Bool := (decide (-1000000000 ≤ f.1) && decide (f.1 ≤ 1000000000)) && (decide (1 ≤ f.2) && decide (f.2 ≤ 1000000000)) && decide (Int.gcd f.1 f.2 = 1)
end Go.Proofs.YtigepnpiofcooaaGreatDoor.Ax
namespace Go.Proofs.YtigepnpiofcooaaGreatDoor.Ax
open Go Go.RowKit
set_option linter.unusedSimpArgs false
section
variable {α : Type} {f : α → AV} {z : AV} {xs : List α} {k : Nat}
end
theorem take_eq_succ {α : Type} {xs ys : List α} {k : Nat} (h1 : k < xs.length) (h2 : k < ys.length) : xs.take (k + 1) = ys.take (k + 1) ↔ xs.take k = ys.take k ∧ xs[k] = ys[k] := by
  rw [List.take_succ_eq_append_getElem h1, List.take_succ_eq_append_getElem h2]
  constructor
  · intro h
    have := List.append_inj h (by simp; omega)
    simpa using this
  · rintro ⟨h, h'⟩; rw [h, h']
end Go.Proofs.YtigepnpiofcooaaGreatDoor.Ax
namespace Go.Proofs.YtigepnpiofcooaaGreatDoor.Ax
open Go Go.RowKit
end Go.Proofs.YtigepnpiofcooaaGreatDoor.Ax
namespace Go.Proofs.YtigepnpiofcooaaGreatDoor.Ax
open Go Go.RowKit
set_option linter.unusedSimpArgs false
noncomputable def mEqIs : List AV → Option AV := mk (fun p => p.1.2.length ≤ 2 ^ 40 ∧ p.2.2.length ≤ 2 ^ 40) (fun (p : (Bool × List Int) × (Bool × List Int)) => [ints p.1.1 p.1.2, ints p.2.1 p.2.2]) (fun p => bool (decide (p.1.2 = p.2.2)))
theorem mEqIs_at (nl nl' : Bool) (xs ys : List Int) (h : xs.length ≤ 2 ^ 40) (h' : ys.length ≤ 2 ^ 40) : mEqIs [.sl nl 1 (xs.map int), .sl nl' 1 (ys.map int)] = some (.v (.bool (decide (xs = ys)))) :=
  mk_eq (enc := fun (p : (Bool × List Int) × (Bool × List Int)) => [ints p.1.1 p.1.2, ints p.2.1 p.2.2]) (x := ((nl, xs), (nl', ys))) (by rintro ⟨⟨x, x'⟩, ⟨x'', x3⟩⟩ ⟨⟨y, y'⟩, ⟨y'', y3⟩⟩ h; simp [ints, map_int_inj] at h; simp [h]) ⟨h, h'⟩
set_option maxHeartbeats 1000000 in
theorem eqIntS_ok : FnOk Tryz.prog 43 mEqIs := by
  refine mk_ok fun ⟨⟨nl, xs⟩, ⟨nl', ys⟩⟩ ⟨hp, hp'⟩ => ?_
  simp only at hp hp'
  refine callOk_of_awp (ctx_ok eqOk .nil) mixed (live := [true, true, false, false, true, true, false, false, false, false, true, false, false, false, true, false, false, false, false, false, false, false, false, false, false, true]) (dt := [(6, ⟨[], [], []⟩)]) Tryz.func43 rfl (by kernel_rfl) (by kernel_rfl) fun w0 => ?_
  by_cases hl : xs.length = ys.length
  · simp [Tryz.f43, List.range, List.range.loop, ints, hl]
    refine awp_loop_of (ctx_ok eqOk .nil) mixed (live := [true, true, false, false, true, true, false, false, false, false, true, false, false, false, true, false, false, false, false, false, false, false, false, false, false, true]) [true, true, false, false, true, true] (α := {k : Nat // k ≤ ys.length ∧ xs.take k = ys.take k})
      (fun k => ⟨[ints nl xs, ints nl' ys, .junk, .junk, bool false, int k.1] ++ List.replicate 20 .junk, []⟩) (fun k => ys.length - k.1) ⟨0, by omega, by simp⟩
      (by simp [sub, slotsLe, clean, keep, refsL, refs, once, place, renL, ren, List.replicate, int, bool, ints]) ?_
    rintro ⟨k, hk, he⟩
    by_cases h : k < ys.length
    · have h' : k < xs.length := by omega
      by_cases hx : xs[k] = ys[k]
      · simp [List.range, List.range.loop, ints, int, bool, h, h', hl, List.replicate, hx]
        refine ⟨⟨k + 1, h, (take_eq_succ h' h).2 ⟨he, hx⟩⟩, ?_, by simp; omega⟩
        simp [sub, slotsLe, clean, keep, refsL, refs, once, place, renL, ren, List.replicate, int, bool, ints]
        exact wrapI (by omega) (by omega)
      · have hx' : (xs[k] != ys[k]) = true := by simpa using hx
        simp [List.range, List.range.loop, ints, int, bool, h, h', hl, List.replicate, hx, hx']
        intro e; subst e; exact hx rfl
    · have hk' : k = ys.length := by omega
      subst hk'
      simp [List.range, List.range.loop, ints, int, bool, h, hl, List.replicate]
      rw [List.take_of_length_le (by omega), List.take_of_length_le (by omega)] at he
      exact he
  · have hl' : ((xs.length : Int) != ys.length) = true := by simp; omega
    simp [Tryz.f43, List.range, List.range.loop, ints, hl, hl', bool]
    intro e; rw [e] at hl; exact hl rfl
end Go.Proofs.YtigepnpiofcooaaGreatDoor.Ax
namespace Go.Proofs.YtigepnpiofcooaaGreatDoor.Ax
open Go Go.RowKit
set_option linter.unusedSimpArgs false
def row (p : Bool × List Int) : AV := .sl p.1 1 (p.2.map int)
def intss (nl : Bool) (xss : List (Bool × List Int)) : AV := .sl nl 1 (xss.map row)
theorem row_inj {p q : Bool × List Int} : row p = row q ↔ p = q := by
  obtain ⟨a, b⟩ := p; obtain ⟨c, d⟩ := q
  simp [row, map_int_inj]
theorem map_row_inj {a b : List (Bool × List Int)} : a.map row = b.map row ↔ a = b :=
  ⟨fun h => (List.map_inj_right (fun x y => row_inj.1)).1 h, fun h => by rw [h]⟩
def own (xss : List (Bool × List Int)) : List (Bool × List Int) := xss.map fun p => (false, p.2)
end Go.Proofs.YtigepnpiofcooaaGreatDoor.Ax
namespace Go.Proofs.YtigepnpiofcooaaGreatDoor.Ax
open Go Go.RowKit
theorem ownP : ownKnob Tryz.prog.godebug = none := by kernel_rfl
theorem laidOutP : laidOutB Tryz.prog = true := by kernel_rfl
end Go.Proofs.YtigepnpiofcooaaGreatDoor.Ax
namespace Go.Proofs.YtigepnpiofcooaaGreatDoor.Ax
open Go Go.RowKit
set_option linter.unusedSimpArgs false
structure Pure (caps : List AV) : Prop where
  res : ∀ toks, resL toks caps = caps
  refs : refsL caps = []
  ren : ∀ f, renL f caps = caps
noncomputable def only (a : List AV) (r : AV) : List AV → Option AV := mk (fun _ : Unit => True) (fun _ => a) (fun _ => r)
theorem only_at {a : List AV} {r : AV} : only a r a = some r := mk_eq (enc := fun _ : Unit => a) (x := ()) (fun _ _ _ => rfl) trivial
theorem only_ok {P : Program} {f : FuncId} {a : List AV} {r : AV} (h : CallOk P f a r) : FnOk P f (only a r) := mk_ok fun _ _ => h
theorem as_model {P : Program} {f : FuncId} {a : List AV} {r : AV} (h : CallOk P f a r) : ∃ m, FnOk P f m ∧ m a = some r := ⟨only a r, only_ok h, only_at⟩
def idxOf {α : Type} (p : α → Bool) (xs : List α) : Int := (xs.findIdx? p).elim (-1) fun i => (i : Int)
theorem idxOf_found {α : Type} {p : α → Bool} {xs : List α} {k : Nat} (hk : k < xs.length) (h : ∀ j (hj : j < xs.length), j < k → p xs[j] = false) (hp : p xs[k] = true) : idxOf p xs = k := by
  have : xs.findIdx? p = some k := List.findIdx?_eq_some_iff_getElem.2 ⟨hk, hp, fun j hj => by rw [h j (by omega) hj]; simp⟩
  simp [idxOf, this]
theorem idxOf_none {α : Type} {p : α → Bool} {xs : List α} (h : ∀ j (hj : j < xs.length), j < xs.length → p xs[j] = false) : idxOf p xs = -1 := by
  have : xs.findIdx? p = none := List.findIdx?_eq_none_iff.2 fun x hx => by
    obtain ⟨i, hi, rfl⟩ := List.getElem_of_mem hx
    exact h i hi hi
  simp [idxOf, this]
theorem idxOf_nonneg {α : Type} {p : α → Bool} {xs : List α} : decide (0 ≤ idxOf p xs) = xs.any p := by
  unfold idxOf
  cases h : xs.findIdx? p with
  | none =>
    have := List.findIdx?_eq_none_iff.1 h
    simp
    exact this
  | some i =>
    obtain ⟨hi, hp, _⟩ := List.findIdx?_eq_some_iff_getElem.1 h
    simp
    exact ⟨_, List.getElem_mem hi, hp⟩
theorem ge_zero {x : Int} : decide (x ≥ 0) = decide (0 ≤ x) := rfl
end Go.Proofs.YtigepnpiofcooaaGreatDoor.Ax
namespace Go.Proofs.YtigepnpiofcooaaGreatDoor.Ax
open Go Go.RowKit
set_option linter.unusedSimpArgs false
def inR (lo hi x : Int) : Bool := decide (lo ≤ x) && decide (x ≤ hi)
theorem not_any_not {α : Type} {p : α → Bool} {xs : List α} : (!xs.any fun x => !p x) = xs.all p := by
  induction xs with
  | nil => rfl
  | cons x xs ih => simp only [List.any_cons, List.all_cons, Bool.not_or, Bool.not_not, ih]
theorem pure_fp {a : AV} {j : Nat} {l : List AV} (h : Pure l) : Pure (.fp a j :: l) := ⟨fun t => by simp [resL, res, h.res], by simp [refsL, refs, h.refs], fun f => by simp [renL, ren, h.ren]⟩
theorem pure_nil : Pure [] := ⟨fun t => by simp [resL], by simp [refsL], fun f => by simp [renL]⟩
def rowIs (n : Nat) (most : Int) (r : Bool × List Int) : Bool := decide (r.2.length = n) && r.2.all (inR 0 most)
def rectB (xss : List (Bool × List Int)) (high wide most : Int) : Bool := match xss with
  | [] => false
  | r0 :: _ => inR 1 high xss.length && inR 1 wide r0.2.length && xss.all (rowIs r0.2.length most)
end Go.Proofs.YtigepnpiofcooaaGreatDoor.Ax
namespace Go.Proofs.YtigepnpiofcooaaGreatDoor.Ax
open Go Go.RowKit
set_option linter.unusedSimpArgs false
end Go.Proofs.YtigepnpiofcooaaGreatDoor.Ax
namespace Go.Proofs.YtigepnpiofcooaaGreatDoor.Ax
open Go Go.RowKit
set_option linter.unusedSimpArgs false
end Go.Proofs.YtigepnpiofcooaaGreatDoor.Ax
namespace Go.Proofs.YtigepnpiofcooaaGreatDoor.Ax
open Go Go.RowKit
set_option linter.unusedSimpArgs false
end Go.Proofs.YtigepnpiofcooaaGreatDoor.Ax
namespace Go.Proofs.YtigepnpiofcooaaGreatDoor.Ax
open Go Go.RowKit
set_option linter.unusedSimpArgs false
end Go.Proofs.YtigepnpiofcooaaGreatDoor.Ax
namespace Go.Proofs.YtigepnpiofcooaaGreatDoor.Ax
open Go Go.RowKit
set_option linter.unusedSimpArgs false
def posFrom (v : Int) : List Int → Nat → Int
  | [], _ => -1
  | x :: xs, k => if x = v then k else posFrom v xs (k + 1)
def pos (xs : List Int) (v : Int) : Int := posFrom v xs 0
theorem drop_get {α : Type} {xs : List α} {k : Nat} (h : k < xs.length) : xs.drop k = xs[k] :: xs.drop (k + 1) := List.drop_eq_getElem_cons h
noncomputable def mPos : List AV → Option AV := mk (fun _ => True) (fun (p : (Bool) × (List Int) × (Int)) => [ints p.1 p.2.1, int p.2.2]) (fun p => int (pos p.2.1 p.2.2))
theorem mPos_at (nl : Bool) (xs : List Int) (v : Int) : mPos [.sl nl 1 (xs.map int), .v (.int .i64 v)] = some (.v (.int .i64 (pos xs v))) :=
  mk_eq (enc := fun (p : (Bool) × (List Int) × (Int)) => [ints p.1 p.2.1, int p.2.2]) (x := (nl, xs, v)) (by rintro ⟨a0, a1, a2⟩ ⟨b0, b1, b2⟩ h; simp [ints, intss, int, bool, row, frac, fracs, map_int_inj, map_row_inj, frac_inj, map_frac_inj] at h; simp [h]) trivial
set_option maxHeartbeats 1000000 in
theorem slicesIndex_ok : FnOk Tryz.prog 77 mPos := by
  refine mk_ok fun ⟨nl, xs, v⟩ _ => ?_
  have hG : FnsOk Tryz.prog [] := .nil
  refine callOk_awp (ctx_ok eqOk hG) mixed (live := [true, true, false, false, true, true, false, true, true, true, false, false, false, false, false, false, true]) (dt := []) Tryz.func77 rfl (by kernel_rfl) (by kernel_rfl) fun w0 hlens => ?_
  simp only [lensL, lens, ints, int, List.length_map] at hlens
  generalize hr : pos xs v = r
  simp [Tryz.f77, List.range, List.range.loop, ints, intss, int, bool, row, frac, fracs, ← List.map_take, ← List.map_drop, ints]
  refine awp_range (live := [true, true, false, false, true, true, false, true, true, true, false, false, false, false, false, false, true]) (ctx_ok eqOk hG) mixed [true, true, false, false, false, false, false, true, true] (xs.length) (fun k => posFrom v (xs.drop k) k = r) (fun k => ⟨[ints nl xs, int v, .junk, .junk, .junk, .junk, .junk, int xs.length, int k, .junk, .junk, .junk, .junk, .junk, .junk, .junk, .junk, .junk, .junk], []⟩) ?_ (by simp [sub, slotsLe, clean, keep, refsL, refs, once, place, renL, ren, List.replicate, int, bool, ints]) ?_ ?_ ?_
  · exact hlens.1.1.1
  · simpa [pos] using hr
  · intro k h hp hw
    rw [drop_get h, posFrom] at hp
    by_cases e : xs[k] = v
    · rw [if_pos e] at hp; subst hp
      simp [List.range, List.range.loop, ints, intss, int, bool, row, frac, fracs, ← List.map_take, ← List.map_drop, h, e]
    · rw [if_neg e] at hp
      have e' : ¬ v = xs[k] := fun h => e h.symm
      simp [List.range, List.range.loop, ints, intss, int, bool, row, frac, fracs, ← List.map_take, ← List.map_drop, h, hw, hp, e']
  · intro hp
    simp [posFrom] at hp; subst hp
    simp [List.range, List.range.loop, ints, intss, int, bool, row, frac, fracs, ← List.map_take, ← List.map_drop]
end Go.Proofs.YtigepnpiofcooaaGreatDoor.Ax
namespace Go.Proofs.YtigepnpiofcooaaGreatDoor.Ax
open Go Go.RowKit
set_option linter.unusedSimpArgs false
def allR (n : Nat) (f : Nat → Bool) : Bool := (List.range n).all f
theorem allR_no {n k : Nat} {f : Nat → Bool} (h : k < n) (hf : f k = false) : allR n f = false := by
  unfold allR; rw [List.all_eq_false]; exact ⟨k, by simpa using h, by simp [hf]⟩
def upto (f : Nat → Bool) (k : Nat) : Prop := ∀ j, j < k → f j = true
theorem upto_zero {f : Nat → Bool} : upto f 0 := fun _ h => by omega
theorem upto_succ {k : Nat} {f : Nat → Bool} (h : upto f k) (hk : f k = true) : upto f (k + 1) := fun j hj => by
  by_cases e : j = k
  · subst e; exact hk
  · exact h j (by omega)
theorem allR_yes {n : Nat} {f : Nat → Bool} (h : upto f n) : allR n f = true := by
  unfold allR; rw [List.all_eq_true]; intro x hx; exact h x (by simpa using hx)
theorem getD_at {xs : List Int} {k : Nat} (h : k < xs.length) : xs.getD k 0 = xs[k] := by simp [List.getD_eq_getElem?_getD, h]
noncomputable def mHas : List AV → Option AV := mk (fun _ => True) (fun (p : (Bool) × (List Int) × (Int)) => [ints p.1 p.2.1, int p.2.2]) (fun p => bool (decide (0 ≤ pos p.2.1 p.2.2)))
theorem mHas_at (nl : Bool) (xs : List Int) (v : Int) : mHas [.sl nl 1 (xs.map int), .v (.int .i64 v)] = some (.v (.bool (decide (0 ≤ pos xs v)))) :=
  mk_eq (enc := fun (p : (Bool) × (List Int) × (Int)) => [ints p.1 p.2.1, int p.2.2]) (x := (nl, xs, v)) (by rintro ⟨a0, a1, a2⟩ ⟨b0, b1, b2⟩ h; simp [ints, intss, int, bool, row, frac, fracs, map_int_inj, map_row_inj, frac_inj, map_frac_inj] at h; simp [h]) trivial
theorem slicesContains_ok : FnOk Tryz.prog 66 mHas := by
  refine mk_ok fun ⟨nl, xs, v⟩ _ => ?_
  have hG : FnsOk Tryz.prog [(77, mPos)] := (.cons slicesIndex_ok .nil)
  refine callOk_awp (ctx_ok eqOk hG) mixed (live := [true, true, false, false, true]) (dt := []) Tryz.func66 rfl (by kernel_rfl) (by kernel_rfl) fun w0 hlens => ?_
  simp [Tryz.f66, List.range, List.range.loop, ints, intss, int, bool, row, frac, fracs, ← List.map_take, ← List.map_drop, mPos_at, ge_zero]
theorem mWithin_in {n lo hi : Int} : mWithin [.v (.int .i64 n), .v (.int .i64 lo), .v (.int .i64 hi)] = some (.v (.bool (inR lo hi n))) := rfl
def awAt (xs : List Int) (i : Nat) : Bool := !(decide (0 ≤ xs.getD i 0) && decide (0 ≤ pos (xs.take i) (xs.getD i 0)))
def isAwd (xs : List Int) : Bool := allR xs.length (awAt xs)
end Go.Proofs.YtigepnpiofcooaaGreatDoor.Ax
