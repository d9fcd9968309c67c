/-
  What this seat's program says of the types that the proofs meet. No condition.
-/
import Derived.Test.YtkfmhpgnhkdebaaGreatDoorCK4
import Derived.Test.YtkfmhpgnhkdebaaGreatDoorProg
import Derived.Test.YtkfmhpgnhkdebaaGreatDoorRows
namespace Go.Proofs.YtkfmhpgnhkdebaaGreatDoor.Ax
open Go Go.RowKit
theorem ty2 : tyOf Tryz.prog 2 = some ({ desc := TypeDesc.int IntKind.i64, size := 1, bytes := 8, zero := Value.int IntKind.i64 0 } : TI) := by kernel_rfl
theorem ty3 : tyOf Tryz.prog 3 = some ({ desc := TypeDesc.int IntKind.i64, size := 1, bytes := 8, zero := Value.int IntKind.i64 0 } : TI) := by kernel_rfl
theorem ty4 : tyOf Tryz.prog 4 = some ({ desc := TypeDesc.bool, size := 1, bytes := 1, zero := Value.bool false } : TI) := by kernel_rfl
theorem ty5 : tyOf Tryz.prog 5 = some ({ desc := TypeDesc.int IntKind.u8, size := 1, bytes := 1, zero := Value.int IntKind.u8 0 } : TI) := by kernel_rfl
theorem ty9 : tyOf Tryz.prog 9 = some ({ desc := TypeDesc.string, size := 1, bytes := 16, zero := Value.string ⟨#[]⟩ } : TI) := by kernel_rfl
theorem ty12 : tyOf Tryz.prog 12 = some ({ desc := TypeDesc.int IntKind.u64, size := 1, bytes := 8, zero := Value.int IntKind.u64 0 } : TI) := by kernel_rfl
theorem ty21 : tyOf Tryz.prog 21 = some ({ desc := TypeDesc.int IntKind.i32, size := 1, bytes := 4, zero := Value.int IntKind.i32 0 } : TI) := by kernel_rfl
theorem ty22 : tyOf Tryz.prog 22 = some ({ desc := TypeDesc.slice 149, size := 1, bytes := 24, zero := Value.slice none 0 0 } : TI) := by kernel_rfl
theorem ty23 : tyOf Tryz.prog 23 = some ({ desc := TypeDesc.struct #[{ name := "Size", type := 3, offset := 0, embedded := false, tag := "", pkgPath := "", byteOffset := 0 }, { name := "Votes", type := 22, offset := 1, embedded := false, tag := "", pkgPath := "", byteOffset := 8 }], size := 2, bytes := 32, zero := Value.agg #[Value.int IntKind.i64 0, Value.slice none 0 0] } : TI) := by kernel_rfl
theorem ty24 : tyOf Tryz.prog 24 = some ({ desc := TypeDesc.struct #[{ name := "Size", type := 3, offset := 0, embedded := false, tag := "", pkgPath := "", byteOffset := 0 }, { name := "Votes", type := 22, offset := 1, embedded := false, tag := "", pkgPath := "", byteOffset := 8 }], size := 2, bytes := 32, zero := Value.agg #[Value.int IntKind.i64 0, Value.slice none 0 0] } : TI) := by kernel_rfl
theorem ty27 : tyOf Tryz.prog 27 = some ({ desc := TypeDesc.slice 98, size := 1, bytes := 24, zero := Value.slice none 0 0 } : TI) := by kernel_rfl
theorem ty28 : tyOf Tryz.prog 28 = some ({ desc := TypeDesc.struct #[{ name := "Size", type := 3, offset := 0, embedded := false, tag := "", pkgPath := "", byteOffset := 0 }, { name := "Votes", type := 27, offset := 1, embedded := false, tag := "", pkgPath := "", byteOffset := 8 }], size := 2, bytes := 32, zero := Value.agg #[Value.int IntKind.i64 0, Value.slice none 0 0] } : TI) := by kernel_rfl
theorem ty29 : tyOf Tryz.prog 29 = some ({ desc := TypeDesc.struct #[{ name := "Size", type := 3, offset := 0, embedded := false, tag := "", pkgPath := "", byteOffset := 0 }, { name := "Votes", type := 27, offset := 1, embedded := false, tag := "", pkgPath := "", byteOffset := 8 }], size := 2, bytes := 32, zero := Value.agg #[Value.int IntKind.i64 0, Value.slice none 0 0] } : TI) := by kernel_rfl
theorem ty33 : tyOf Tryz.prog 33 = some ({ desc := TypeDesc.slice 5, size := 1, bytes := 24, zero := Value.slice none 0 0 } : TI) := by kernel_rfl
theorem ty35 : tyOf Tryz.prog 35 = some ({ desc := TypeDesc.slice 3, size := 1, bytes := 24, zero := Value.slice none 0 0 } : TI) := by kernel_rfl
theorem ty44 : tyOf Tryz.prog 44 = some ({ desc := TypeDesc.slice 35, size := 1, bytes := 24, zero := Value.slice none 0 0 } : TI) := by kernel_rfl
theorem ty46 : tyOf Tryz.prog 46 = some ({ desc := TypeDesc.struct #[{ name := "Top", type := 3, offset := 0, embedded := false, tag := "", pkgPath := "", byteOffset := 0 }, { name := "Bottom", type := 3, offset := 1, embedded := false, tag := "", pkgPath := "", byteOffset := 8 }], size := 2, bytes := 16, zero := Value.agg #[Value.int IntKind.i64 0, Value.int IntKind.i64 0] } : TI) := by kernel_rfl
theorem ty47 : tyOf Tryz.prog 47 = some ({ desc := TypeDesc.struct #[{ name := "Top", type := 3, offset := 0, embedded := false, tag := "", pkgPath := "", byteOffset := 0 }, { name := "Bottom", type := 3, offset := 1, embedded := false, tag := "", pkgPath := "", byteOffset := 8 }], size := 2, bytes := 16, zero := Value.agg #[Value.int IntKind.i64 0, Value.int IntKind.i64 0] } : TI) := by kernel_rfl
theorem ty48 : tyOf Tryz.prog 48 = some ({ desc := TypeDesc.slice 47, size := 1, bytes := 24, zero := Value.slice none 0 0 } : TI) := by kernel_rfl
theorem ty51 : tyOf Tryz.prog 51 = some ({ desc := TypeDesc.slice 48, size := 1, bytes := 24, zero := Value.slice none 0 0 } : TI) := by kernel_rfl
theorem ty56 : tyOf Tryz.prog 56 = some ({ desc := TypeDesc.slice 51, size := 1, bytes := 24, zero := Value.slice none 0 0 } : TI) := by kernel_rfl
theorem ty57 : tyOf Tryz.prog 57 = some ({ desc := TypeDesc.slice 118, size := 1, bytes := 24, zero := Value.slice none 0 0 } : TI) := by kernel_rfl
theorem ty66 : tyOf Tryz.prog 66 = some ({ desc := TypeDesc.struct #[{ name := "Men", type := 44, offset := 0, embedded := false, tag := "", pkgPath := "", byteOffset := 0 }, { name := "Women", type := 44, offset := 1, embedded := false, tag := "", pkgPath := "", byteOffset := 24 }], size := 2, bytes := 48, zero := Value.agg #[Value.slice none 0 0, Value.slice none 0 0] } : TI) := by kernel_rfl
theorem ty67 : tyOf Tryz.prog 67 = some ({ desc := TypeDesc.struct #[{ name := "Men", type := 44, offset := 0, embedded := false, tag := "", pkgPath := "", byteOffset := 0 }, { name := "Women", type := 44, offset := 1, embedded := false, tag := "", pkgPath := "", byteOffset := 24 }], size := 2, bytes := 48, zero := Value.agg #[Value.slice none 0 0, Value.slice none 0 0] } : TI) := by kernel_rfl
theorem ty91 : tyOf Tryz.prog 91 = some ({ desc := TypeDesc.slice 9, size := 1, bytes := 24, zero := Value.slice none 0 0 } : TI) := by kernel_rfl
theorem ty97 : tyOf Tryz.prog 97 = some ({ desc := TypeDesc.struct #[{ name := "Ranking", type := 35, offset := 0, embedded := false, tag := "", pkgPath := "", byteOffset := 0 }, { name := "Count", type := 3, offset := 1, embedded := false, tag := "", pkgPath := "", byteOffset := 24 }], size := 2, bytes := 32, zero := Value.agg #[Value.slice none 0 0, Value.int IntKind.i64 0] } : TI) := by kernel_rfl
theorem ty98 : tyOf Tryz.prog 98 = some ({ desc := TypeDesc.struct #[{ name := "Ranking", type := 35, offset := 0, embedded := false, tag := "", pkgPath := "", byteOffset := 0 }, { name := "Count", type := 3, offset := 1, embedded := false, tag := "", pkgPath := "", byteOffset := 24 }], size := 2, bytes := 32, zero := Value.agg #[Value.slice none 0 0, Value.int IntKind.i64 0] } : TI) := by kernel_rfl
theorem ty117 : tyOf Tryz.prog 117 = some ({ desc := TypeDesc.struct #[{ name := "Weight", type := 47, offset := 0, embedded := false, tag := "", pkgPath := "", byteOffset := 0 }, { name := "List", type := 35, offset := 2, embedded := false, tag := "", pkgPath := "", byteOffset := 16 }], size := 3, bytes := 40, zero := Value.agg #[Value.int IntKind.i64 0, Value.int IntKind.i64 0, Value.slice none 0 0] } : TI) := by kernel_rfl
theorem ty118 : tyOf Tryz.prog 118 = some ({ desc := TypeDesc.struct #[{ name := "Weight", type := 47, offset := 0, embedded := false, tag := "", pkgPath := "", byteOffset := 0 }, { name := "List", type := 35, offset := 2, embedded := false, tag := "", pkgPath := "", byteOffset := 16 }], size := 3, bytes := 40, zero := Value.agg #[Value.int IntKind.i64 0, Value.int IntKind.i64 0, Value.slice none 0 0] } : TI) := by kernel_rfl
theorem ty140 : tyOf Tryz.prog 140 = some ({ desc := TypeDesc.func #[218] #[] false, size := 1, bytes := 8, zero := Value.nilFunc } : TI) := by kernel_rfl
theorem ty149 : tyOf Tryz.prog 149 = some ({ desc := TypeDesc.struct #[{ name := "Ranking", type := 35, offset := 0, embedded := false, tag := "", pkgPath := "", byteOffset := 0 }, { name := "Count", type := 3, offset := 1, embedded := false, tag := "", pkgPath := "", byteOffset := 24 }], size := 2, bytes := 32, zero := Value.agg #[Value.slice none 0 0, Value.int IntKind.i64 0] } : TI) := by kernel_rfl
theorem ty167 : tyOf Tryz.prog 167 = some ({ desc := TypeDesc.int IntKind.u64, size := 1, bytes := 8, zero := Value.int IntKind.u64 0 } : TI) := by kernel_rfl
theorem ty178 : tyOf Tryz.prog 178 = some ({ desc := TypeDesc.struct #[{ name := "b", type := 33, offset := 0, embedded := false, tag := "", pkgPath := "loop.example/g03202/spec", byteOffset := 0 }, { name := "i", type := 3, offset := 1, embedded := false, tag := "", pkgPath := "loop.example/g03202/spec", byteOffset := 24 }, { name := "h", type := 3, offset := 2, embedded := false, tag := "", pkgPath := "loop.example/g03202/spec", byteOffset := 32 }], size := 3, bytes := 40, zero := Value.agg #[Value.slice none 0 0, Value.int IntKind.i64 0, Value.int IntKind.i64 0] } : TI) := by kernel_rfl
theorem ty179 : tyOf Tryz.prog 179 = some ({ desc := TypeDesc.struct #[{ name := "b", type := 33, offset := 0, embedded := false, tag := "", pkgPath := "loop.example/g03202/spec", byteOffset := 0 }, { name := "i", type := 3, offset := 1, embedded := false, tag := "", pkgPath := "loop.example/g03202/spec", byteOffset := 24 }, { name := "h", type := 3, offset := 2, embedded := false, tag := "", pkgPath := "loop.example/g03202/spec", byteOffset := 32 }], size := 3, bytes := 40, zero := Value.agg #[Value.slice none 0 0, Value.int IntKind.i64 0, Value.int IntKind.i64 0] } : TI) := by kernel_rfl
theorem ty181 : tyOf Tryz.prog 181 = some ({ desc := TypeDesc.interface #[("Error", 200)], size := 1, bytes := 16, zero := Value.nilIface } : TI) := by kernel_rfl
theorem ty186 : tyOf Tryz.prog 186 = some ({ desc := TypeDesc.slice 91, size := 1, bytes := 24, zero := Value.slice none 0 0 } : TI) := by kernel_rfl
theorem ty192 : tyOf Tryz.prog 192 = some ({ desc := TypeDesc.slice 4, size := 1, bytes := 24, zero := Value.slice none 0 0 } : TI) := by kernel_rfl
theorem ty197 : tyOf Tryz.prog 197 = some ({ desc := TypeDesc.struct #[{ name := "addr", type := 196, offset := 0, embedded := false, tag := "", pkgPath := "strings", byteOffset := 0 }, { name := "buf", type := 33, offset := 1, embedded := false, tag := "", pkgPath := "strings", byteOffset := 8 }], size := 2, bytes := 32, zero := Value.agg #[Value.pointer none, Value.slice none 0 0] } : TI) := by kernel_rfl
theorem ty198 : tyOf Tryz.prog 198 = some ({ desc := TypeDesc.struct #[{ name := "addr", type := 196, offset := 0, embedded := false, tag := "", pkgPath := "strings", byteOffset := 0 }, { name := "buf", type := 33, offset := 1, embedded := false, tag := "", pkgPath := "strings", byteOffset := 8 }], size := 2, bytes := 32, zero := Value.agg #[Value.pointer none, Value.slice none 0 0] } : TI) := by kernel_rfl
theorem ty206 : tyOf Tryz.prog 206 = some ({ desc := TypeDesc.int IntKind.u32, size := 1, bytes := 4, zero := Value.int IntKind.u32 0 } : TI) := by kernel_rfl
theorem ty208 : tyOf Tryz.prog 208 = some ({ desc := TypeDesc.int IntKind.u64, size := 1, bytes := 8, zero := Value.int IntKind.u64 0 } : TI) := by kernel_rfl
theorem ty227 : tyOf Tryz.prog 227 = some ({ desc := TypeDesc.array 24 5, size := 24, bytes := 24, zero := Value.agg #[Value.int IntKind.u8 0, Value.int IntKind.u8 0, Value.int IntKind.u8 0, Value.int IntKind.u8 0, Value.int IntKind.u8 0, Value.int IntKind.u8 0, Value.int IntKind.u8 0, Value.int IntKind.u8 0, Value.int IntKind.u8 0, Value.int IntKind.u8 0, Value.int IntKind.u8 0, Value.int IntKind.u8 0, Value.int IntKind.u8 0, Value.int IntKind.u8 0, Value.int IntKind.u8 0, Value.int IntKind.u8 0, Value.int IntKind.u8 0, Value.int IntKind.u8 0, Value.int IntKind.u8 0, Value.int IntKind.u8 0, Value.int IntKind.u8 0, Value.int IntKind.u8 0, Value.int IntKind.u8 0, Value.int IntKind.u8 0] } : TI) := by kernel_rfl
theorem ty237 : tyOf Tryz.prog 237 = some ({ desc := TypeDesc.int IntKind.i64, size := 1, bytes := 8, zero := Value.int IntKind.i64 0 } : TI) := by kernel_rfl
theorem ty250 : tyOf Tryz.prog 250 = some ({ desc := TypeDesc.array 20 208, size := 20, bytes := 160, zero := Value.agg #[Value.int IntKind.u64 0, Value.int IntKind.u64 0, Value.int IntKind.u64 0, Value.int IntKind.u64 0, Value.int IntKind.u64 0, Value.int IntKind.u64 0, Value.int IntKind.u64 0, Value.int IntKind.u64 0, Value.int IntKind.u64 0, Value.int IntKind.u64 0, Value.int IntKind.u64 0, Value.int IntKind.u64 0, Value.int IntKind.u64 0, Value.int IntKind.u64 0, Value.int IntKind.u64 0, Value.int IntKind.u64 0, Value.int IntKind.u64 0, Value.int IntKind.u64 0, Value.int IntKind.u64 0, Value.int IntKind.u64 0] } : TI) := by kernel_rfl
theorem ty251 : tyOf Tryz.prog 251 = some ({ desc := TypeDesc.array 65 5, size := 65, bytes := 65, zero := Value.agg #[Value.int IntKind.u8 0, Value.int IntKind.u8 0, Value.int IntKind.u8 0, Value.int IntKind.u8 0, Value.int IntKind.u8 0, Value.int IntKind.u8 0, Value.int IntKind.u8 0, Value.int IntKind.u8 0, Value.int IntKind.u8 0, Value.int IntKind.u8 0, Value.int IntKind.u8 0, Value.int IntKind.u8 0, Value.int IntKind.u8 0, Value.int IntKind.u8 0, Value.int IntKind.u8 0, Value.int IntKind.u8 0, Value.int IntKind.u8 0, Value.int IntKind.u8 0, Value.int IntKind.u8 0, Value.int IntKind.u8 0, Value.int IntKind.u8 0, Value.int IntKind.u8 0, Value.int IntKind.u8 0, Value.int IntKind.u8 0, Value.int IntKind.u8 0, Value.int IntKind.u8 0, Value.int IntKind.u8 0, Value.int IntKind.u8 0, Value.int IntKind.u8 0, Value.int IntKind.u8 0, Value.int IntKind.u8 0, Value.int IntKind.u8 0, Value.int IntKind.u8 0, Value.int IntKind.u8 0, Value.int IntKind.u8 0, Value.int IntKind.u8 0, Value.int IntKind.u8 0, Value.int IntKind.u8 0, Value.int IntKind.u8 0, Value.int IntKind.u8 0, Value.int IntKind.u8 0, Value.int IntKind.u8 0, Value.int IntKind.u8 0, Value.int IntKind.u8 0, Value.int IntKind.u8 0, Value.int IntKind.u8 0, Value.int IntKind.u8 0, Value.int IntKind.u8 0, Value.int IntKind.u8 0, Value.int IntKind.u8 0, Value.int IntKind.u8 0, Value.int IntKind.u8 0, Value.int IntKind.u8 0, Value.int IntKind.u8 0, Value.int IntKind.u8 0, Value.int IntKind.u8 0, Value.int IntKind.u8 0, Value.int IntKind.u8 0, Value.int IntKind.u8 0, Value.int IntKind.u8 0, Value.int IntKind.u8 0, Value.int IntKind.u8 0, Value.int IntKind.u8 0, Value.int IntKind.u8 0, Value.int IntKind.u8 0] } : TI) := by kernel_rfl
theorem ty256 : tyOf Tryz.prog 256 = some ({ desc := TypeDesc.struct #[{ name := "Func", type := 9, offset := 0, embedded := false, tag := "", pkgPath := "", byteOffset := 0 }, { name := "Num", type := 9, offset := 1, embedded := false, tag := "", pkgPath := "", byteOffset := 16 }, { name := "Err", type := 181, offset := 2, embedded := false, tag := "", pkgPath := "", byteOffset := 32 }], size := 3, bytes := 48, zero := Value.agg #[Value.string ⟨#[]⟩, Value.string ⟨#[]⟩, Value.nilIface] } : TI) := by kernel_rfl
theorem ty257 : tyOf Tryz.prog 257 = some ({ desc := TypeDesc.struct #[{ name := "Func", type := 9, offset := 0, embedded := false, tag := "", pkgPath := "", byteOffset := 0 }, { name := "Num", type := 9, offset := 1, embedded := false, tag := "", pkgPath := "", byteOffset := 16 }, { name := "Err", type := 181, offset := 2, embedded := false, tag := "", pkgPath := "", byteOffset := 32 }], size := 3, bytes := 48, zero := Value.agg #[Value.string ⟨#[]⟩, Value.string ⟨#[]⟩, Value.nilIface] } : TI) := by kernel_rfl
theorem ty260 : tyOf Tryz.prog 260 = some ({ desc := TypeDesc.struct #[{ name := "lo", type := 5, offset := 0, embedded := false, tag := "", pkgPath := "unicode/utf8", byteOffset := 0 }, { name := "hi", type := 5, offset := 1, embedded := false, tag := "", pkgPath := "unicode/utf8", byteOffset := 1 }], size := 2, bytes := 2, zero := Value.agg #[Value.int IntKind.u8 0, Value.int IntKind.u8 0] } : TI) := by kernel_rfl
theorem ty261 : tyOf Tryz.prog 261 = some ({ desc := TypeDesc.struct #[{ name := "lo", type := 5, offset := 0, embedded := false, tag := "", pkgPath := "unicode/utf8", byteOffset := 0 }, { name := "hi", type := 5, offset := 1, embedded := false, tag := "", pkgPath := "unicode/utf8", byteOffset := 1 }], size := 2, bytes := 2, zero := Value.agg #[Value.int IntKind.u8 0, Value.int IntKind.u8 0] } : TI) := by kernel_rfl
theorem ty262 : tyOf Tryz.prog 262 = some ({ desc := TypeDesc.array 16 261, size := 32, bytes := 32, zero := Value.agg #[Value.int IntKind.u8 0, Value.int IntKind.u8 0, Value.int IntKind.u8 0, Value.int IntKind.u8 0, Value.int IntKind.u8 0, Value.int IntKind.u8 0, Value.int IntKind.u8 0, Value.int IntKind.u8 0, Value.int IntKind.u8 0, Value.int IntKind.u8 0, Value.int IntKind.u8 0, Value.int IntKind.u8 0, Value.int IntKind.u8 0, Value.int IntKind.u8 0, Value.int IntKind.u8 0, Value.int IntKind.u8 0, Value.int IntKind.u8 0, Value.int IntKind.u8 0, Value.int IntKind.u8 0, Value.int IntKind.u8 0, Value.int IntKind.u8 0, Value.int IntKind.u8 0, Value.int IntKind.u8 0, Value.int IntKind.u8 0, Value.int IntKind.u8 0, Value.int IntKind.u8 0, Value.int IntKind.u8 0, Value.int IntKind.u8 0, Value.int IntKind.u8 0, Value.int IntKind.u8 0, Value.int IntKind.u8 0, Value.int IntKind.u8 0] } : TI) := by kernel_rfl
theorem ty265 : tyOf Tryz.prog 265 = some ({ desc := TypeDesc.struct #[{ name := "s", type := 9, offset := 0, embedded := false, tag := "", pkgPath := "errors", byteOffset := 0 }], size := 1, bytes := 16, zero := Value.agg #[Value.string ⟨#[]⟩] } : TI) := by kernel_rfl
theorem ty266 : tyOf Tryz.prog 266 = some ({ desc := TypeDesc.struct #[{ name := "s", type := 9, offset := 0, embedded := false, tag := "", pkgPath := "errors", byteOffset := 0 }], size := 1, bytes := 16, zero := Value.agg #[Value.string ⟨#[]⟩] } : TI) := by kernel_rfl
theorem ty267 : tyOf Tryz.prog 267 = some ({ desc := TypeDesc.array 32 5, size := 32, bytes := 32, zero := Value.agg #[Value.int IntKind.u8 0, Value.int IntKind.u8 0, Value.int IntKind.u8 0, Value.int IntKind.u8 0, Value.int IntKind.u8 0, Value.int IntKind.u8 0, Value.int IntKind.u8 0, Value.int IntKind.u8 0, Value.int IntKind.u8 0, Value.int IntKind.u8 0, Value.int IntKind.u8 0, Value.int IntKind.u8 0, Value.int IntKind.u8 0, Value.int IntKind.u8 0, Value.int IntKind.u8 0, Value.int IntKind.u8 0, Value.int IntKind.u8 0, Value.int IntKind.u8 0, Value.int IntKind.u8 0, Value.int IntKind.u8 0, Value.int IntKind.u8 0, Value.int IntKind.u8 0, Value.int IntKind.u8 0, Value.int IntKind.u8 0, Value.int IntKind.u8 0, Value.int IntKind.u8 0, Value.int IntKind.u8 0, Value.int IntKind.u8 0, Value.int IntKind.u8 0, Value.int IntKind.u8 0, Value.int IntKind.u8 0, Value.int IntKind.u8 0] } : TI) := by kernel_rfl
theorem ty268 : tyOf Tryz.prog 268 = some ({ desc := TypeDesc.array 64 5, size := 64, bytes := 64, zero := Value.agg #[Value.int IntKind.u8 0, Value.int IntKind.u8 0, Value.int IntKind.u8 0, Value.int IntKind.u8 0, Value.int IntKind.u8 0, Value.int IntKind.u8 0, Value.int IntKind.u8 0, Value.int IntKind.u8 0, Value.int IntKind.u8 0, Value.int IntKind.u8 0, Value.int IntKind.u8 0, Value.int IntKind.u8 0, Value.int IntKind.u8 0, Value.int IntKind.u8 0, Value.int IntKind.u8 0, Value.int IntKind.u8 0, Value.int IntKind.u8 0, Value.int IntKind.u8 0, Value.int IntKind.u8 0, Value.int IntKind.u8 0, Value.int IntKind.u8 0, Value.int IntKind.u8 0, Value.int IntKind.u8 0, Value.int IntKind.u8 0, Value.int IntKind.u8 0, Value.int IntKind.u8 0, Value.int IntKind.u8 0, Value.int IntKind.u8 0, Value.int IntKind.u8 0, Value.int IntKind.u8 0, Value.int IntKind.u8 0, Value.int IntKind.u8 0, Value.int IntKind.u8 0, Value.int IntKind.u8 0, Value.int IntKind.u8 0, Value.int IntKind.u8 0, Value.int IntKind.u8 0, Value.int IntKind.u8 0, Value.int IntKind.u8 0, Value.int IntKind.u8 0, Value.int IntKind.u8 0, Value.int IntKind.u8 0, Value.int IntKind.u8 0, Value.int IntKind.u8 0, Value.int IntKind.u8 0, Value.int IntKind.u8 0, Value.int IntKind.u8 0, Value.int IntKind.u8 0, Value.int IntKind.u8 0, Value.int IntKind.u8 0, Value.int IntKind.u8 0, Value.int IntKind.u8 0, Value.int IntKind.u8 0, Value.int IntKind.u8 0, Value.int IntKind.u8 0, Value.int IntKind.u8 0, Value.int IntKind.u8 0, Value.int IntKind.u8 0, Value.int IntKind.u8 0, Value.int IntKind.u8 0, Value.int IntKind.u8 0, Value.int IntKind.u8 0, Value.int IntKind.u8 0, Value.int IntKind.u8 0] } : TI) := by kernel_rfl
theorem ty273 : tyOf Tryz.prog 273 = some ({ desc := TypeDesc.array 0 16, size := 0, bytes := 0, zero := Value.agg #[] } : TI) := by kernel_rfl
theorem ty282 : tyOf Tryz.prog 282 = some ({ desc := TypeDesc.struct #[{ name := "Size_", type := 12, offset := 0, embedded := false, tag := "", pkgPath := "", byteOffset := 0 }, { name := "PtrBytes", type := 12, offset := 1, embedded := false, tag := "", pkgPath := "", byteOffset := 8 }, { name := "Hash", type := 206, offset := 2, embedded := false, tag := "", pkgPath := "", byteOffset := 16 }, { name := "TFlag", type := 277, offset := 3, embedded := false, tag := "", pkgPath := "", byteOffset := 20 }, { name := "Align_", type := 5, offset := 4, embedded := false, tag := "", pkgPath := "", byteOffset := 21 }, { name := "FieldAlign_", type := 5, offset := 5, embedded := false, tag := "", pkgPath := "", byteOffset := 22 }, { name := "Kind_", type := 278, offset := 6, embedded := false, tag := "", pkgPath := "", byteOffset := 23 }, { name := "Equal", type := 279, offset := 7, embedded := false, tag := "", pkgPath := "", byteOffset := 24 }, { name := "GCData", type := 223, offset := 8, embedded := false, tag := "", pkgPath := "", byteOffset := 32 }, { name := "Str", type := 280, offset := 9, embedded := false, tag := "", pkgPath := "", byteOffset := 40 }, { name := "PtrToThis", type := 281, offset := 10, embedded := false, tag := "", pkgPath := "", byteOffset := 44 }], size := 11, bytes := 48, zero := Value.agg #[Value.int IntKind.u64 0, Value.int IntKind.u64 0, Value.int IntKind.u32 0, Value.int IntKind.u8 0, Value.int IntKind.u8 0, Value.int IntKind.u8 0, Value.int IntKind.u8 0, Value.nilFunc, Value.pointer none, Value.int IntKind.i32 0, Value.int IntKind.i32 0] } : TI) := by kernel_rfl
theorem ty284 : tyOf Tryz.prog 284 = some ({ desc := TypeDesc.struct #[{ name := "msg", type := 9, offset := 0, embedded := false, tag := "", pkgPath := "fmt", byteOffset := 0 }, { name := "err", type := 181, offset := 1, embedded := false, tag := "", pkgPath := "fmt", byteOffset := 16 }], size := 2, bytes := 32, zero := Value.agg #[Value.string ⟨#[]⟩, Value.nilIface] } : TI) := by kernel_rfl
theorem ty285 : tyOf Tryz.prog 285 = some ({ desc := TypeDesc.struct #[{ name := "msg", type := 9, offset := 0, embedded := false, tag := "", pkgPath := "fmt", byteOffset := 0 }, { name := "err", type := 181, offset := 1, embedded := false, tag := "", pkgPath := "fmt", byteOffset := 16 }], size := 2, bytes := 32, zero := Value.agg #[Value.string ⟨#[]⟩, Value.nilIface] } : TI) := by kernel_rfl
theorem ty286 : tyOf Tryz.prog 286 = some ({ desc := TypeDesc.slice 181, size := 1, bytes := 24, zero := Value.slice none 0 0 } : TI) := by kernel_rfl
theorem ty287 : tyOf Tryz.prog 287 = some ({ desc := TypeDesc.struct #[{ name := "msg", type := 9, offset := 0, embedded := false, tag := "", pkgPath := "fmt", byteOffset := 0 }, { name := "errs", type := 286, offset := 1, embedded := false, tag := "", pkgPath := "fmt", byteOffset := 16 }], size := 2, bytes := 40, zero := Value.agg #[Value.string ⟨#[]⟩, Value.slice none 0 0] } : TI) := by kernel_rfl
theorem ty288 : tyOf Tryz.prog 288 = some ({ desc := TypeDesc.struct #[{ name := "msg", type := 9, offset := 0, embedded := false, tag := "", pkgPath := "fmt", byteOffset := 0 }, { name := "errs", type := 286, offset := 1, embedded := false, tag := "", pkgPath := "fmt", byteOffset := 16 }], size := 2, bytes := 40, zero := Value.agg #[Value.string ⟨#[]⟩, Value.slice none 0 0] } : TI) := by kernel_rfl
def eqT : TypeId → Option Nat := fun t => if t = 47 then some 2 else none
theorem eqOk : ∀ t n, eqT t = some n → EqOk Tryz.prog t n := by
  intro t n h
  unfold eqT at h
  split at h
  · rename_i e; subst e
    simp only [Option.some.injEq] at h; subst h
    exact eqOk_two (by kernel_rfl) (by kernel_rfl) Tryz.underlying3 Tryz.underlying47 (by decide) (by decide)
  · simp at h
attribute [simp] awp_skip awp_seq awp_block awp_exit awp_ret awp_loop awp_rangeF awp_region awp_cond contS_normal contS_exit contS_ret inB_normal inB_exit inB_ret loopS_normal loopS_exit loopS_ret doneS_normal doneS_ret regS_some condS_bool bindS_some rrun_nil rrun_cons outD_some stepG_some rstep_eq callOut_some callOut_none mutCall_none movCall_none frzCall_none frzCall_some alt_none alt_some regrun_false regrun_true noLd_dt mkLd_dt frzLd_dt ldR_dt dtGet rdraw_eq rrunD_nil rrunD_cons contD_eq rstepD_eq outDr_some outC_zero outC_succ needs chk stR opR jk jkL meets appO appU upX shf nums sets Op.operands Call.operands noM_mk callV_fn aop_call take_map_all guardOk aop ev putD ofV ofV1 Value.oneCell' asNat abin aun pickAV scal frz nilS TypeDesc.aggB AV.cells lenAV getAt loadCell loadCells res resL intern internL putCells ownR ownRL ownV drops flat kill killL killN killNL clean keep refsL refs once place renL ren ctx G resOk resVars resVar pack viewEs bndOf appX appY ty2 ty3 ty4 ty5 ty9 ty12 ty21 ty22 ty23 ty24 ty27 ty28 ty29 ty33 ty35 ty44 ty46 ty47 ty48 ty51 ty56 ty57 ty66 ty67 ty91 ty97 ty98 ty117 ty118 ty140 ty149 ty167 ty178 ty179 ty181 ty186 ty192 ty197 ty198 ty206 ty208 ty227 ty237 ty250 ty251 ty256 ty257 ty260 ty261 ty262 ty265 ty266 ty267 ty268 ty273 ty282 ty284 ty285 ty286 ty287 ty288 eqT cellInts bld partOk nilAV bytesOf regS_ite allS_map allS_v allS_rep pickAV_bool nn1 tn1 nz1 nz1' lt1 sub slotsLe rngS_normal rngS_exit rngS_ret ctxV ctxH GH GM GV doneF_normal doneF_ret resVarsF resVarF mutCall movCall others setAt setCell ctxM resM doneM_normal doneM_ret
theorem mixed : Tryz.prog.follows .mixedOrders = true := by kernel_rfl
end Go.Proofs.YtkfmhpgnhkdebaaGreatDoor.Ax
namespace Go.Proofs.YtkfmhpgnhkdebaaGreatDoor.Ax
open Go Go.RowKit
def mWithin : List AV → Option AV
  | [.v (.int .i64 n), .v (.int .i64 lo), .v (.int .i64 hi)] => some (.v (.bool (decide (lo ≤ n) && decide (n ≤ hi))))
  | _ => none
set_option linter.unusedSimpArgs false
set_option maxHeartbeats 400000 in
theorem within_ok : FnOk Tryz.prog 99 mWithin := by
  intro args r h
  unfold mWithin at h
  split at h
  · rename_i n lo hi
    simp only [Option.some.injEq] at h; subst h
    refine callOk_of_awp (ctx_ok eqOk .nil) mixed (live := [true, true, true, false, false, false, true]) (dt := []) Tryz.func99 rfl (by kernel_rfl) (by kernel_rfl) fun w0 => ?_
    by_cases h : lo ≤ n
    · simp [Tryz.f99, List.range, List.range.loop, h]
    · simp [Tryz.f99, List.range, List.range.loop, h]
  · simp at h
end Go.Proofs.YtkfmhpgnhkdebaaGreatDoor.Ax
namespace Go.Proofs.YtkfmhpgnhkdebaaGreatDoor.Ax
open Go Go.RowKit
set_option linter.unusedSimpArgs false
set_option maxHeartbeats 400000 in
theorem l01In_ok : FnOk Tryz.prog 96 mWithin := by
  intro args r h
  unfold mWithin at h
  split at h
  · rename_i n lo hi
    simp only [Option.some.injEq] at h; subst h
    refine callOk_of_awp (ctx_ok eqOk .nil) mixed (live := [true, true, true, false, false, false, true]) (dt := []) Tryz.func96 rfl (by kernel_rfl) (by kernel_rfl) fun w0 => ?_
    by_cases h : lo ≤ n
    · simp [Tryz.f96, List.range, List.range.loop, h]
    · simp [Tryz.f96, List.range, List.range.loop, h]
  · simp at h
def frac (f : Int × Int) : AV := .agg [.v (.int .i64 f.1), .v (.int .i64 f.2)]
def fracs (nl : Bool) (xs : List (Int × Int)) : AV := .sl nl 2 (xs.map frac)
theorem frac_inj {a b : Int × Int} : frac a = frac b ↔ a = b := by
  obtain ⟨a, a'⟩ := a; obtain ⟨b, b'⟩ := b; simp [frac]
theorem map_frac_inj {a b : List (Int × Int)} : a.map frac = b.map frac ↔ a = b := by
  constructor
  · intro h; exact (List.map_inj_right (fun x y => frac_inj.1)).1 h
  · rintro rfl; rfl
def fracOk (f : Int × Int) : Bool := (decide (-1000000000 ≤ f.1) && decide (f.1 ≤ 1000000000)) && (decide (1 ≤ f.2) && decide (f.2 ≤ 1000000000)) && decide (Int.gcd f.1 f.2 = 1)
end Go.Proofs.YtkfmhpgnhkdebaaGreatDoor.Ax
namespace Go.Proofs.YtkfmhpgnhkdebaaGreatDoor.Ax
open Go Go.RowKit
set_option linter.unusedSimpArgs false
def filled {α : Type} (f : α → AV) (z : AV) (xs : List α) (k : Nat) : List AV := (xs.take k).map f ++ List.replicate (xs.length - k) z
section
variable {α : Type} {f : α → AV} {z : AV} {xs : List α} {k : Nat}
theorem filled_len (h : k ≤ xs.length) : (filled f z xs k).length = xs.length := by simp [filled]; omega
theorem filled_get (h : k < xs.length) : (filled f z xs k)[k]? = some z := by
  unfold filled
  rw [List.getElem?_append_right (by simp; omega), List.getElem?_replicate]
  have h1 : ((xs.take k).map f).length = k := by simp; omega
  rw [h1, if_pos (by omega)]
theorem filled_get' (h : k < xs.length) (hh : k < (filled f z xs k).length) : (filled f z xs k)[k] = z := by
  have := filled_get (f := f) (z := z) h
  rw [List.getElem?_eq_getElem hh] at this
  exact Option.some.inj this
theorem filled_set (h : k < xs.length) : (filled f z xs k).set k (f xs[k]) = filled f z xs (k + 1) := by
  unfold filled
  rw [List.take_succ_eq_append_getElem h, List.map_append, List.set_append]
  have hl : ((xs.take k).map f).length = k := by simp; omega
  rw [if_neg (by omega), hl, Nat.sub_self]
  obtain ⟨m, hm⟩ : ∃ m, xs.length - k = m + 1 := ⟨xs.length - k - 1, by omega⟩
  rw [hm, List.replicate_succ, show xs.length - (k + 1) = m by omega]
  simp
theorem filled_zero : filled f z xs 0 = List.replicate xs.length z := by simp [filled]
theorem filled_all : filled f z xs xs.length = xs.map f := by simp [filled]
end
theorem take_eq_succ {α : Type} {xs ys : List α} {k : Nat} (h1 : k < xs.length) (h2 : k < ys.length) : xs.take (k + 1) = ys.take (k + 1) ↔ xs.take k = ys.take k ∧ xs[k] = ys[k] := by
  rw [List.take_succ_eq_append_getElem h1, List.take_succ_eq_append_getElem h2]
  constructor
  · intro h
    have := List.append_inj h (by simp; omega)
    simpa using this
  · rintro ⟨h, h'⟩; rw [h, h']
end Go.Proofs.YtkfmhpgnhkdebaaGreatDoor.Ax
namespace Go.Proofs.YtkfmhpgnhkdebaaGreatDoor.Ax
open Go Go.RowKit
theorem datInts {a : AV} (h : DatE Tryz.prog 35 a) : ∃ nl xs, a = ints nl xs ∧ xs.length ≤ maxLen ∧ ∀ x ∈ xs, (Lit.int .i64 x).wf = true :=
  h.ints Tryz.underlying35 Tryz.underlying3 (by kernel_rfl)
end Go.Proofs.YtkfmhpgnhkdebaaGreatDoor.Ax
namespace Go.Proofs.YtkfmhpgnhkdebaaGreatDoor.Ax
open Go Go.RowKit
set_option linter.unusedSimpArgs false
noncomputable def mToIs : List AV → Option AV := mk (fun p => p.2.length ≤ 2 ^ 40) (fun (p : Bool × List Int) => [ints p.1 p.2]) (fun p => ints false p.2)
theorem mToIs_at (nl : Bool) (xs : List Int) (h : xs.length ≤ 2 ^ 40) : mToIs [.sl nl 1 (xs.map int)] = some (.sl false 1 (xs.map int)) :=
  mk_eq (enc := fun (p : Bool × List Int) => [ints p.1 p.2]) (x := (nl, xs)) (by rintro ⟨x, x'⟩ ⟨y, y'⟩ h; simp [ints, map_int_inj] at h; simp [h]) h
set_option maxHeartbeats 1000000 in
theorem toIntS_ok : FnOk Tryz.prog 205 mToIs := by
  refine mk_ok fun ⟨nl, xs⟩ hpre => ?_
  simp only at hpre
  refine callOk_of_awp (ctx_ok eqOk .nil) mixed (live := [true, false, true, true, true, false, false, false, false, false, false, true]) (dt := []) Tryz.func205 rfl (by kernel_rfl) (by kernel_rfl) fun w0 => ?_
  have hb : 8 * xs.length ≤ 281474976710656 := by omega
  have hn : xs.length ≤ 4611686018427387904 := by omega
  simp [Tryz.f205, List.range, List.range.loop, ints, hb, hn]
  refine awp_loop_of (ctx_ok eqOk .nil) mixed (live := [true, false, true, true, true, false, false, false, false, false, false, true]) [true, false, true, true, true] (α := {k : Nat // k ≤ xs.length})
    (fun k => ⟨[ints nl xs, .junk, .sl true 1 [], .ref 0 [] 0 xs.length, int k.1] ++ List.replicate 17 .junk, [⟨true, .sl false 1 (filled int (int 0) xs k.1)⟩]⟩) (fun k => xs.length - k.1) ⟨0, by omega⟩
    (by simp [sub, slotsLe, clean, keep, refsL, refs, once, place, renL, ren, List.replicate, int, bool, ints, filled_zero]) ?_
  rintro ⟨k, hk⟩
  by_cases h : k < xs.length
  · have hl := filled_len (f := int) (z := AV.v (.int .i64 0)) hk
    have hg := filled_get (f := int) (z := AV.v (.int .i64 0)) h
    have hg' := filled_get' (f := int) (z := AV.v (.int .i64 0)) h
    simp [List.range, List.range.loop, ints, int, h, List.replicate, hl, hg, hg']
    refine ⟨⟨k + 1, h⟩, ?_, by simp; omega⟩
    have hset := filled_set (f := int) (z := AV.v (.int .i64 0)) h
    simp only [int] at hset
    simp [sub, slotsLe, clean, keep, refsL, refs, once, place, renL, ren, List.replicate, int, bool, ints, hset, hl]
    exact wrapI (by omega) (by omega)
  · have hk' : k = xs.length := by omega
    subst hk'
    simp [List.range, List.range.loop, ints, int, h, List.replicate, filled_all]
noncomputable def mSzI : List AV → Option AV := mk (fun p => p.2.1.length < 2 ^ 63 ∧ 0 ≤ p.2.2 ∧ p.2.2 ≤ 2 ^ 62) (fun (p : Bool × List Int × Int) => [ints p.1 p.2.1, int p.2.2]) (fun p => int (if p.2.2 < p.2.1.length then -1 else p.2.2 - p.2.1.length))
theorem mSzI_at (nl : Bool) (xs : List Int) (l : Int) (h : xs.length < 2 ^ 63) (h1 : 0 ≤ l) (h2 : l ≤ 2 ^ 62) : mSzI [.sl nl 1 (xs.map int), .v (.int .i64 l)] = some (.v (.int .i64 (if l < xs.length then -1 else l - xs.length))) :=
  mk_eq (enc := fun (p : Bool × List Int × Int) => [ints p.1 p.2.1, int p.2.2]) (x := (nl, xs, l)) (by rintro ⟨x, x', x''⟩ ⟨y, y', y''⟩ h; simp [ints, int_inj, map_int_inj] at h; simp [h]) ⟨h, h1, h2⟩
theorem szIntS_ok : FnOk Tryz.prog 201 mSzI := by
  refine mk_ok fun ⟨nl, xs, l⟩ ⟨h1, h2, h3⟩ => ?_
  simp only at h1 h2 h3
  refine callOk_of_awp (ctx_ok eqOk .nil) mixed (live := [true, true, false, false, true, false, false, false, false, false, true]) (dt := []) Tryz.func201 rfl (by kernel_rfl) (by kernel_rfl) fun w0 => ?_
  have hw : IntKind.i64.wrap (l - xs.length) = l - xs.length := wrapI (by omega) (by omega)
  by_cases h : l < xs.length
  · have h' : l - xs.length < 0 := by omega
    simp [Tryz.f201, List.range, List.range.loop, ints, int, hw, h, h']
  · have h' : ¬ l - xs.length < 0 := by omega
    simp [Tryz.f201, List.range, List.range.loop, ints, int, hw, h, h']
noncomputable def mEqIs : List AV → Option AV := mk (fun p => p.1.2.length ≤ 2 ^ 40 ∧ p.2.2.length ≤ 2 ^ 40) (fun (p : (Bool × List Int) × (Bool × List Int)) => [ints p.1.1 p.1.2, ints p.2.1 p.2.2]) (fun p => bool (decide (p.1.2 = p.2.2)))
theorem mEqIs_at (nl nl' : Bool) (xs ys : List Int) (h : xs.length ≤ 2 ^ 40) (h' : ys.length ≤ 2 ^ 40) : mEqIs [.sl nl 1 (xs.map int), .sl nl' 1 (ys.map int)] = some (.v (.bool (decide (xs = ys)))) :=
  mk_eq (enc := fun (p : (Bool × List Int) × (Bool × List Int)) => [ints p.1.1 p.1.2, ints p.2.1 p.2.2]) (x := ((nl, xs), (nl', ys))) (by rintro ⟨⟨x, x'⟩, ⟨x'', x3⟩⟩ ⟨⟨y, y'⟩, ⟨y'', y3⟩⟩ h; simp [ints, map_int_inj] at h; simp [h]) ⟨h, h'⟩
set_option maxHeartbeats 1000000 in
theorem eqIntS_ok : FnOk Tryz.prog 210 mEqIs := by
  refine mk_ok fun ⟨⟨nl, xs⟩, ⟨nl', ys⟩⟩ ⟨hp, hp'⟩ => ?_
  simp only at hp hp'
  refine callOk_of_awp (ctx_ok eqOk .nil) mixed (live := [true, true, false, false, true, true, false, false, false, false, true, false, false, false, true, false, false, false, false, false, false, false, false, false, false, true]) (dt := [(6, ⟨[], [], []⟩)]) Tryz.func210 rfl (by kernel_rfl) (by kernel_rfl) fun w0 => ?_
  by_cases hl : xs.length = ys.length
  · simp [Tryz.f210, List.range, List.range.loop, ints, hl]
    refine awp_loop_of (ctx_ok eqOk .nil) mixed (live := [true, true, false, false, true, true, false, false, false, false, true, false, false, false, true, false, false, false, false, false, false, false, false, false, false, true]) [true, true, false, false, true, true] (α := {k : Nat // k ≤ ys.length ∧ xs.take k = ys.take k})
      (fun k => ⟨[ints nl xs, ints nl' ys, .junk, .junk, bool false, int k.1] ++ List.replicate 20 .junk, []⟩) (fun k => ys.length - k.1) ⟨0, by omega, by simp⟩
      (by simp [sub, slotsLe, clean, keep, refsL, refs, once, place, renL, ren, List.replicate, int, bool, ints]) ?_
    rintro ⟨k, hk, he⟩
    by_cases h : k < ys.length
    · have h' : k < xs.length := by omega
      by_cases hx : xs[k] = ys[k]
      · simp [List.range, List.range.loop, ints, int, bool, h, h', hl, List.replicate, hx]
        refine ⟨⟨k + 1, h, (take_eq_succ h' h).2 ⟨he, hx⟩⟩, ?_, by simp; omega⟩
        simp [sub, slotsLe, clean, keep, refsL, refs, once, place, renL, ren, List.replicate, int, bool, ints]
        exact wrapI (by omega) (by omega)
      · have hx' : (xs[k] != ys[k]) = true := by simpa using hx
        simp [List.range, List.range.loop, ints, int, bool, h, h', hl, List.replicate, hx, hx']
        intro e; subst e; exact hx rfl
    · have hk' : k = ys.length := by omega
      subst hk'
      simp [List.range, List.range.loop, ints, int, bool, h, hl, List.replicate]
      rw [List.take_of_length_le (by omega), List.take_of_length_le (by omega)] at he
      exact he
  · have hl' : ((xs.length : Int) != ys.length) = true := by simp; omega
    simp [Tryz.f210, List.range, List.range.loop, ints, hl, hl', bool]
    intro e; rw [e] at hl; exact hl rfl
end Go.Proofs.YtkfmhpgnhkdebaaGreatDoor.Ax
namespace Go.Proofs.YtkfmhpgnhkdebaaGreatDoor.Ax
open Go Go.RowKit
set_option linter.unusedSimpArgs false
def row (p : Bool × List Int) : AV := .sl p.1 1 (p.2.map int)
def intss (nl : Bool) (xss : List (Bool × List Int)) : AV := .sl nl 1 (xss.map row)
theorem row_inj {p q : Bool × List Int} : row p = row q ↔ p = q := by
  obtain ⟨a, b⟩ := p; obtain ⟨c, d⟩ := q
  simp [row, map_int_inj]
theorem map_row_inj {a b : List (Bool × List Int)} : a.map row = b.map row ↔ a = b :=
  ⟨fun h => (List.map_inj_right (fun x y => row_inj.1)).1 h, fun h => by rw [h]⟩
def rowSum (xss : List (Bool × List Int)) (k : Nat) : Nat := ((xss.take k).map (·.2.length)).sum
theorem rowSum_zero {xss : List (Bool × List Int)} : rowSum xss 0 = 0 := by simp [rowSum]
theorem rowSum_succ {xss : List (Bool × List Int)} {k : Nat} (h : k < xss.length) : rowSum xss (k + 1) = rowSum xss k + xss[k].2.length := by
  unfold rowSum; rw [List.take_succ_eq_append_getElem h]; simp only [List.map_append, List.sum_append, List.map_cons, List.map_nil, List.sum_cons, List.sum_nil, Nat.add_zero]
theorem rowSum_mono {xss : List (Bool × List Int)} {k n : Nat} (h : k ≤ n) : rowSum xss k ≤ rowSum xss n := by
  induction n with
  | zero => obtain rfl : k = 0 := by omega
            exact Nat.le_refl _
  | succ n ih =>
    by_cases e : k = n + 1
    · rw [e]; exact Nat.le_refl _
    · refine Nat.le_trans (ih (by omega)) ?_
      by_cases hn : n < xss.length
      · rw [rowSum_succ hn]; omega
      · simp only [rowSum]; rw [List.take_of_length_le (by omega), List.take_of_length_le (by omega)]; exact Nat.le_refl _
def need (xss : List (Bool × List Int)) : Nat := xss.length + rowSum xss xss.length
def own (xss : List (Bool × List Int)) : List (Bool × List Int) := xss.map fun p => (false, p.2)
def small (xss : List (Bool × List Int)) : Prop := xss.length ≤ 2 ^ 40 ∧ ∀ x ∈ xss, x.2.length ≤ 2 ^ 40
end Go.Proofs.YtkfmhpgnhkdebaaGreatDoor.Ax
namespace Go.Proofs.YtkfmhpgnhkdebaaGreatDoor.Ax
open Go Go.RowKit
theorem ownP : ownKnob Tryz.prog.godebug = none := by kernel_rfl
theorem laidOutP : laidOutB Tryz.prog = true := by kernel_rfl
end Go.Proofs.YtkfmhpgnhkdebaaGreatDoor.Ax
