/-
  What this seat's program says of the types that the proofs meet. No condition.
-/
import Derived.Test.YtkfmhpgnhkdebaaGreatDoorCK4
import Derived.Test.YtkfmhpgnhkdebaaGreatDoorProg
import Derived.Test.YtkfmhpgnhkdebaaGreatDoorRows
namespace Go.Proofs.YtkfmhpgnhkdebaaGreatDoor.Ax
open Go Go.RowKit
theorem ty2 : tyOf Tryz.prog 2 = some ({ desc := TypeDesc.int IntKind.i64, size := 1, bytes := 8, zero := Value.int IntKind.i64 0 } : TI) := by kernel_rfl
theorem ty3 : tyOf Tryz.prog 3 = some ({ desc := TypeDesc.int IntKind.i64, size := 1, bytes := 8, zero := Value.int IntKind.i64 0 } : TI) := by kernel_rfl
theorem ty4 : tyOf Tryz.prog 4 = some ({ desc := TypeDesc.bool, size := 1, bytes := 1, zero := Value.bool false } : TI) := by kernel_rfl
theorem ty5 : tyOf Tryz.prog 5 = some ({ desc := TypeDesc.int IntKind.u8, size := 1, bytes := 1, zero := Value.int IntKind.u8 0 } : TI) := by kernel_rfl
theorem ty9 : tyOf Tryz.prog 9 = some ({ desc := TypeDesc.string, size := 1, bytes := 16, zero := Value.string ⟨#[]⟩ } : TI) := by kernel_rfl
theorem ty12 : tyOf Tryz.prog 12 = some ({ desc := TypeDesc.int IntKind.u64, size := 1, bytes := 8, zero := Value.int IntKind.u64 0 } : TI) := by kernel_rfl
theorem ty21 : tyOf Tryz.prog 21 = some ({ desc := TypeDesc.int IntKind.i32, size := 1, bytes := 4, zero := Value.int IntKind.i32 0 } : TI) := by kernel_rfl
theorem ty22 : tyOf Tryz.prog 22 = some ({ desc := TypeDesc.slice 149, size := 1, bytes := 24, zero := Value.slice none 0 0 } : TI) := by kernel_rfl
theorem ty23 : tyOf Tryz.prog 23 = some ({ desc := TypeDesc.struct #[{ name := "Size", type := 3, offset := 0, embedded := false, tag := "", pkgPath := "", byteOffset := 0 }, { name := "Votes", type := 22, offset := 1, embedded := false, tag := "", pkgPath := "", byteOffset := 8 }], size := 2, bytes := 32, zero := Value.agg #[Value.int IntKind.i64 0, Value.slice none 0 0] } : TI) := by kernel_rfl
theorem ty24 : tyOf Tryz.prog 24 = some ({ desc := TypeDesc.struct #[{ name := "Size", type := 3, offset := 0, embedded := false, tag := "", pkgPath := "", byteOffset := 0 }, { name := "Votes", type := 22, offset := 1, embedded := false, tag := "", pkgPath := "", byteOffset := 8 }], size := 2, bytes := 32, zero := Value.agg #[Value.int IntKind.i64 0, Value.slice none 0 0] } : TI) := by kernel_rfl
theorem ty27 : tyOf Tryz.prog 27 = some ({ desc := TypeDesc.slice 98, size := 1, bytes := 24, zero := Value.slice none 0 0 } : TI) := by kernel_rfl
theorem ty28 : tyOf Tryz.prog 28 = some ({ desc := TypeDesc.struct #[{ name := "Size", type := 3, offset := 0, embedded := false, tag := "", pkgPath := "", byteOffset := 0 }, { name := "Votes", type := 27, offset := 1, embedded := false, tag := "", pkgPath := "", byteOffset := 8 }], size := 2, bytes := 32, zero := Value.agg #[Value.int IntKind.i64 0, Value.slice none 0 0] } : TI) := by kernel_rfl
theorem ty29 : tyOf Tryz.prog 29 = some ({ desc := TypeDesc.struct #[{ name := "Size", type := 3, offset := 0, embedded := false, tag := "", pkgPath := "", byteOffset := 0 }, { name := "Votes", type := 27, offset := 1, embedded := false, tag := "", pkgPath := "", byteOffset := 8 }], size := 2, bytes := 32, zero := Value.agg #[Value.int IntKind.i64 0, Value.slice none 0 0] } : TI) := by kernel_rfl
theorem ty33 : tyOf Tryz.prog 33 = some ({ desc := TypeDesc.slice 5, size := 1, bytes := 24, zero := Value.slice none 0 0 } : TI) := by kernel_rfl
theorem ty35 : tyOf Tryz.prog 35 = some ({ desc := TypeDesc.slice 3, size := 1, bytes := 24, zero := Value.slice none 0 0 } : TI) := by kernel_rfl
theorem ty44 : tyOf Tryz.prog 44 = some ({ desc := TypeDesc.slice 35, size := 1, bytes := 24, zero := Value.slice none 0 0 } : TI) := by kernel_rfl
theorem ty46 : tyOf Tryz.prog 46 = some ({ desc := TypeDesc.struct #[{ name := "Top", type := 3, offset := 0, embedded := false, tag := "", pkgPath := "", byteOffset := 0 }, { name := "Bottom", type := 3, offset := 1, embedded := false, tag := "", pkgPath := "", byteOffset := 8 }], size := 2, bytes := 16, zero := Value.agg #[Value.int IntKind.i64 0, Value.int IntKind.i64 0] } : TI) := by kernel_rfl
theorem ty47 : tyOf Tryz.prog 47 = some ({ desc := TypeDesc.struct #[{ name := "Top", type := 3, offset := 0, embedded := false, tag := "", pkgPath := "", byteOffset := 0 }, { name := "Bottom", type := 3, offset := 1, embedded := false, tag := "", pkgPath := "", byteOffset := 8 }], size := 2, bytes := 16, zero := Value.agg #[Value.int IntKind.i64 0, Value.int IntKind.i64 0] } : TI) := by kernel_rfl
theorem ty48 : tyOf Tryz.prog 48 = some ({ desc := TypeDesc.slice 47, size := 1, bytes := 24, zero := Value.slice none 0 0 } : TI) := by kernel_rfl
theorem ty51 : tyOf Tryz.prog 51 = some ({ desc := TypeDesc.slice 48, size := 1, bytes := 24, zero := Value.slice none 0 0 } : TI) := by kernel_rfl
theorem ty56 : tyOf Tryz.prog 56 = some ({ desc := TypeDesc.slice 51, size := 1, bytes := 24, zero := Value.slice none 0 0 } : TI) := by kernel_rfl
theorem ty57 : tyOf Tryz.prog 57 = some ({ desc := TypeDesc.slice 118, size := 1, bytes := 24, zero := Value.slice none 0 0 } : TI) := by kernel_rfl
theorem ty66 : tyOf Tryz.prog 66 = some ({ desc := TypeDesc.struct #[{ name := "Men", type := 44, offset := 0, embedded := false, tag := "", pkgPath := "", byteOffset := 0 }, { name := "Women", type := 44, offset := 1, embedded := false, tag := "", pkgPath := "", byteOffset := 24 }], size := 2, bytes := 48, zero := Value.agg #[Value.slice none 0 0, Value.slice none 0 0] } : TI) := by kernel_rfl
theorem ty67 : tyOf Tryz.prog 67 = some ({ desc := TypeDesc.struct #[{ name := "Men", type := 44, offset := 0, embedded := false, tag := "", pkgPath := "", byteOffset := 0 }, { name := "Women", type := 44, offset := 1, embedded := false, tag := "", pkgPath := "", byteOffset := 24 }], size := 2, bytes := 48, zero := Value.agg #[Value.slice none 0 0, Value.slice none 0 0] } : TI) := by kernel_rfl
theorem ty91 : tyOf Tryz.prog 91 = some ({ desc := TypeDesc.slice 9, size := 1, bytes := 24, zero := Value.slice none 0 0 } : TI) := by kernel_rfl
theorem ty97 : tyOf Tryz.prog 97 = some ({ desc := TypeDesc.struct #[{ name := "Ranking", type := 35, offset := 0, embedded := false, tag := "", pkgPath := "", byteOffset := 0 }, { name := "Count", type := 3, offset := 1, embedded := false, tag := "", pkgPath := "", byteOffset := 24 }], size := 2, bytes := 32, zero := Value.agg #[Value.slice none 0 0, Value.int IntKind.i64 0] } : TI) := by kernel_rfl
theorem ty98 : tyOf Tryz.prog 98 = some ({ desc := TypeDesc.struct #[{ name := "Ranking", type := 35, offset := 0, embedded := false, tag := "", pkgPath := "", byteOffset := 0 }, { name := "Count", type := 3, offset := 1, embedded := false, tag := "", pkgPath := "", byteOffset := 24 }], size := 2, bytes := 32, zero := Value.agg #[Value.slice none 0 0, Value.int IntKind.i64 0] } : TI) := by kernel_rfl
theorem ty117 : tyOf Tryz.prog 117 = some ({ desc := TypeDesc.struct #[{ name := "Weight", type := 47, offset := 0, embedded := false, tag := "", pkgPath := "", byteOffset := 0 }, { name := "List", type := 35, offset := 2, embedded := false, tag := "", pkgPath := "", byteOffset := 16 }], size := 3, bytes := 40, zero := Value.agg #[Value.int IntKind.i64 0, Value.int IntKind.i64 0, Value.slice none 0 0] } : TI) := by kernel_rfl
theorem ty118 : tyOf Tryz.prog 118 = some ({ desc := TypeDesc.struct #[{ name := "Weight", type := 47, offset := 0, embedded := false, tag := "", pkgPath := "", byteOffset := 0 }, { name := "List", type := 35, offset := 2, embedded := false, tag := "", pkgPath := "", byteOffset := 16 }], size := 3, bytes := 40, zero := Value.agg #[Value.int IntKind.i64 0, Value.int IntKind.i64 0, Value.slice none 0 0] } : TI) := by kernel_rfl
theorem ty140 : tyOf Tryz.prog 140 = some ({ desc := TypeDesc.func #[218] #[] false, size := 1, bytes := 8, zero := Value.nilFunc } : TI) := by kernel_rfl
theorem ty149 : tyOf Tryz.prog 149 = some ({ desc := TypeDesc.struct #[{ name := "Ranking", type := 35, offset := 0, embedded := false, tag := "", pkgPath := "", byteOffset := 0 }, { name := "Count", type := 3, offset := 1, embedded := false, tag := "", pkgPath := "", byteOffset := 24 }], size := 2, bytes := 32, zero := Value.agg #[Value.slice none 0 0, Value.int IntKind.i64 0] } : TI) := by kernel_rfl
theorem ty167 : tyOf Tryz.prog 167 = some ({ desc := TypeDesc.int IntKind.u64, size := 1, bytes := 8, zero := Value.int IntKind.u64 0 } : TI) := by kernel_rfl
theorem ty178 : tyOf Tryz.prog 178 = some ({ desc := TypeDesc.struct #[{ name := "b", type := 33, offset := 0, embedded := false, tag := "", pkgPath := "loop.example/g03202/spec", byteOffset := 0 }, { name := "i", type := 3, offset := 1, embedded := false, tag := "", pkgPath := "loop.example/g03202/spec", byteOffset := 24 }, { name := "h", type := 3, offset := 2, embedded := false, tag := "", pkgPath := "loop.example/g03202/spec", byteOffset := 32 }], size := 3, bytes := 40, zero := Value.agg #[Value.slice none 0 0, Value.int IntKind.i64 0, Value.int IntKind.i64 0] } : TI) := by kernel_rfl
theorem ty179 : tyOf Tryz.prog 179 = some ({ desc := TypeDesc.struct #[{ name := "b", type := 33, offset := 0, embedded := false, tag := "", pkgPath := "loop.example/g03202/spec", byteOffset := 0 }, { name := "i", type := 3, offset := 1, embedded := false, tag := "", pkgPath := "loop.example/g03202/spec", byteOffset := 24 }, { name := "h", type := 3, offset := 2, embedded := false, tag := "", pkgPath := "loop.example/g03202/spec", byteOffset := 32 }], size := 3, bytes := 40, zero := Value.agg #[Value.slice none 0 0, Value.int IntKind.i64 0, Value.int IntKind.i64 0] } : TI) := by kernel_rfl
theorem ty181 : tyOf Tryz.prog 181 = some ({ desc := TypeDesc.interface #[("Error", 200)], size := 1, bytes := 16, zero := Value.nilIface } : TI) := by kernel_rfl
theorem ty186 : tyOf Tryz.prog 186 = some ({ desc := TypeDesc.slice 91, size := 1, bytes := 24, zero := Value.slice none 0 0 } : TI) := by kernel_rfl
theorem ty192 : tyOf Tryz.prog 192 = some ({ desc := TypeDesc.slice 4, size := 1, bytes := 24, zero := Value.slice none 0 0 } : TI) := by kernel_rfl
theorem ty197 : tyOf Tryz.prog 197 = some ({ desc := TypeDesc.struct #[{ name := "addr", type := 196, offset := 0, embedded := false, tag := "", pkgPath := "strings", byteOffset := 0 }, { name := "buf", type := 33, offset := 1, embedded := false, tag := "", pkgPath := "strings", byteOffset := 8 }], size := 2, bytes := 32, zero := Value.agg #[Value.pointer none, Value.slice none 0 0] } : TI) := by kernel_rfl
theorem ty198 : tyOf Tryz.prog 198 = some ({ desc := TypeDesc.struct #[{ name := "addr", type := 196, offset := 0, embedded := false, tag := "", pkgPath := "strings", byteOffset := 0 }, { name := "buf", type := 33, offset := 1, embedded := false, tag := "", pkgPath := "strings", byteOffset := 8 }], size := 2, bytes := 32, zero := Value.agg #[Value.pointer none, Value.slice none 0 0] } : TI) := by kernel_rfl
theorem ty206 : tyOf Tryz.prog 206 = some ({ desc := TypeDesc.int IntKind.u32, size := 1, bytes := 4, zero := Value.int IntKind.u32 0 } : TI) := by kernel_rfl
theorem ty208 : tyOf Tryz.prog 208 = some ({ desc := TypeDesc.int IntKind.u64, size := 1, bytes := 8, zero := Value.int IntKind.u64 0 } : TI) := by kernel_rfl
theorem ty227 : tyOf Tryz.prog 227 = some ({ desc := TypeDesc.array 24 5, size := 24, bytes := 24, zero := Value.agg #[Value.int IntKind.u8 0, Value.int IntKind.u8 0, Value.int IntKind.u8 0, Value.int IntKind.u8 0, Value.int IntKind.u8 0, Value.int IntKind.u8 0, Value.int IntKind.u8 0, Value.int IntKind.u8 0, Value.int IntKind.u8 0, Value.int IntKind.u8 0, Value.int IntKind.u8 0, Value.int IntKind.u8 0, Value.int IntKind.u8 0, Value.int IntKind.u8 0, Value.int IntKind.u8 0, Value.int IntKind.u8 0, Value.int IntKind.u8 0, Value.int IntKind.u8 0, Value.int IntKind.u8 0, Value.int IntKind.u8 0, Value.int IntKind.u8 0, Value.int IntKind.u8 0, Value.int IntKind.u8 0, Value.int IntKind.u8 0] } : TI) := by kernel_rfl
theorem ty237 : tyOf Tryz.prog 237 = some ({ desc := TypeDesc.int IntKind.i64, size := 1, bytes := 8, zero := Value.int IntKind.i64 0 } : TI) := by kernel_rfl
theorem ty250 : tyOf Tryz.prog 250 = some ({ desc := TypeDesc.array 20 208, size := 20, bytes := 160, zero := Value.agg #[Value.int IntKind.u64 0, Value.int IntKind.u64 0, Value.int IntKind.u64 0, Value.int IntKind.u64 0, Value.int IntKind.u64 0, Value.int IntKind.u64 0, Value.int IntKind.u64 0, Value.int IntKind.u64 0, Value.int IntKind.u64 0, Value.int IntKind.u64 0, Value.int IntKind.u64 0, Value.int IntKind.u64 0, Value.int IntKind.u64 0, Value.int IntKind.u64 0, Value.int IntKind.u64 0, Value.int IntKind.u64 0, Value.int IntKind.u64 0, Value.int IntKind.u64 0, Value.int IntKind.u64 0, Value.int IntKind.u64 0] } : TI) := by kernel_rfl
theorem ty251 : tyOf Tryz.prog 251 = some ({ desc := TypeDesc.array 65 5, size := 65, bytes := 65, zero := Value.agg #[Value.int IntKind.u8 0, Value.int IntKind.u8 0, Value.int IntKind.u8 0, Value.int IntKind.u8 0, Value.int IntKind.u8 0, Value.int IntKind.u8 0, Value.int IntKind.u8 0, Value.int IntKind.u8 0, Value.int IntKind.u8 0, Value.int IntKind.u8 0, Value.int IntKind.u8 0, Value.int IntKind.u8 0, Value.int IntKind.u8 0, Value.int IntKind.u8 0, Value.int IntKind.u8 0, Value.int IntKind.u8 0, Value.int IntKind.u8 0, Value.int IntKind.u8 0, Value.int IntKind.u8 0, Value.int IntKind.u8 0, Value.int IntKind.u8 0, Value.int IntKind.u8 0, Value.int IntKind.u8 0, Value.int IntKind.u8 0, Value.int IntKind.u8 0, Value.int IntKind.u8 0, Value.int IntKind.u8 0, Value.int IntKind.u8 0, Value.int IntKind.u8 0, Value.int IntKind.u8 0, Value.int IntKind.u8 0, Value.int IntKind.u8 0, Value.int IntKind.u8 0, Value.int IntKind.u8 0, Value.int IntKind.u8 0, Value.int IntKind.u8 0, Value.int IntKind.u8 0, Value.int IntKind.u8 0, Value.int IntKind.u8 0, Value.int IntKind.u8 0, Value.int IntKind.u8 0, Value.int IntKind.u8 0, Value.int IntKind.u8 0, Value.int IntKind.u8 0, Value.int IntKind.u8 0, Value.int IntKind.u8 0, Value.int IntKind.u8 0, Value.int IntKind.u8 0, Value.int IntKind.u8 0, Value.int IntKind.u8 0, Value.int IntKind.u8 0, Value.int IntKind.u8 0, Value.int IntKind.u8 0, Value.int IntKind.u8 0, Value.int IntKind.u8 0, Value.int IntKind.u8 0, Value.int IntKind.u8 0, Value.int IntKind.u8 0, Value.int IntKind.u8 0, Value.int IntKind.u8 0, Value.int IntKind.u8 0, Value.int IntKind.u8 0, Value.int IntKind.u8 0, Value.int IntKind.u8 0, Value.int IntKind.u8 0] } : TI) := by kernel_rfl
theorem ty256 : tyOf Tryz.prog 256 = some ({ desc := TypeDesc.struct #[{ name := "Func", type := 9, offset := 0, embedded := false, tag := "", pkgPath := "", byteOffset := 0 }, { name := "Num", type := 9, offset := 1, embedded := false, tag := "", pkgPath := "", byteOffset := 16 }, { name := "Err", type := 181, offset := 2, embedded := false, tag := "", pkgPath := "", byteOffset := 32 }], size := 3, bytes := 48, zero := Value.agg #[Value.string ⟨#[]⟩, Value.string ⟨#[]⟩, Value.nilIface] } : TI) := by kernel_rfl
theorem ty257 : tyOf Tryz.prog 257 = some ({ desc := TypeDesc.struct #[{ name := "Func", type := 9, offset := 0, embedded := false, tag := "", pkgPath := "", byteOffset := 0 }, { name := "Num", type := 9, offset := 1, embedded := false, tag := "", pkgPath := "", byteOffset := 16 }, { name := "Err", type := 181, offset := 2, embedded := false, tag := "", pkgPath := "", byteOffset := 32 }], size := 3, bytes := 48, zero := Value.agg #[Value.string ⟨#[]⟩, Value.string ⟨#[]⟩, Value.nilIface] } : TI) := by kernel_rfl
theorem ty260 : tyOf Tryz.prog 260 = some ({ desc := TypeDesc.struct #[{ name := "lo", type := 5, offset := 0, embedded := false, tag := "", pkgPath := "unicode/utf8", byteOffset := 0 }, { name := "hi", type := 5, offset := 1, embedded := false, tag := "", pkgPath := "unicode/utf8", byteOffset := 1 }], size := 2, bytes := 2, zero := Value.agg #[Value.int IntKind.u8 0, Value.int IntKind.u8 0] } : TI) := by kernel_rfl
theorem ty261 : tyOf Tryz.prog 261 = some ({ desc := TypeDesc.struct #[{ name := "lo", type := 5, offset := 0, embedded := false, tag := "", pkgPath := "unicode/utf8", byteOffset := 0 }, { name := "hi", type := 5, offset := 1, embedded := false, tag := "", pkgPath := "unicode/utf8", byteOffset := 1 }], size := 2, bytes := 2, zero := Value.agg #[Value.int IntKind.u8 0, Value.int IntKind.u8 0] } : TI) := by kernel_rfl
theorem ty262 : tyOf Tryz.prog 262 = some ({ desc := TypeDesc.array 16 261, size := 32, bytes := 32, zero := Value.agg #[Value.int IntKind.u8 0, Value.int IntKind.u8 0, Value.int IntKind.u8 0, Value.int IntKind.u8 0, Value.int IntKind.u8 0, Value.int IntKind.u8 0, Value.int IntKind.u8 0, Value.int IntKind.u8 0, Value.int IntKind.u8 0, Value.int IntKind.u8 0, Value.int IntKind.u8 0, Value.int IntKind.u8 0, Value.int IntKind.u8 0, Value.int IntKind.u8 0, Value.int IntKind.u8 0, Value.int IntKind.u8 0, Value.int IntKind.u8 0, Value.int IntKind.u8 0, Value.int IntKind.u8 0, Value.int IntKind.u8 0, Value.int IntKind.u8 0, Value.int IntKind.u8 0, Value.int IntKind.u8 0, Value.int IntKind.u8 0, Value.int IntKind.u8 0, Value.int IntKind.u8 0, Value.int IntKind.u8 0, Value.int IntKind.u8 0, Value.int IntKind.u8 0, Value.int IntKind.u8 0, Value.int IntKind.u8 0, Value.int IntKind.u8 0] } : TI) := by kernel_rfl
theorem ty265 : tyOf Tryz.prog 265 = some ({ desc := TypeDesc.struct #[{ name := "s", type := 9, offset := 0, embedded := false, tag := "", pkgPath := "errors", byteOffset := 0 }], size := 1, bytes := 16, zero := Value.agg #[Value.string ⟨#[]⟩] } : TI) := by kernel_rfl
theorem ty266 : tyOf Tryz.prog 266 = some ({ desc := TypeDesc.struct #[{ name := "s", type := 9, offset := 0, embedded := false, tag := "", pkgPath := "errors", byteOffset := 0 }], size := 1, bytes := 16, zero := Value.agg #[Value.string ⟨#[]⟩] } : TI) := by kernel_rfl
theorem ty267 : tyOf Tryz.prog 267 = some ({ desc := TypeDesc.array 32 5, size := 32, bytes := 32, zero := Value.agg #[Value.int IntKind.u8 0, Value.int IntKind.u8 0, Value.int IntKind.u8 0, Value.int IntKind.u8 0, Value.int IntKind.u8 0, Value.int IntKind.u8 0, Value.int IntKind.u8 0, Value.int IntKind.u8 0, Value.int IntKind.u8 0, Value.int IntKind.u8 0, Value.int IntKind.u8 0, Value.int IntKind.u8 0, Value.int IntKind.u8 0, Value.int IntKind.u8 0, Value.int IntKind.u8 0, Value.int IntKind.u8 0, Value.int IntKind.u8 0, Value.int IntKind.u8 0, Value.int IntKind.u8 0, Value.int IntKind.u8 0, Value.int IntKind.u8 0, Value.int IntKind.u8 0, Value.int IntKind.u8 0, Value.int IntKind.u8 0, Value.int IntKind.u8 0, Value.int IntKind.u8 0, Value.int IntKind.u8 0, Value.int IntKind.u8 0, Value.int IntKind.u8 0, Value.int IntKind.u8 0, Value.int IntKind.u8 0, Value.int IntKind.u8 0] } : TI) := by kernel_rfl
theorem ty268 : tyOf Tryz.prog 268 = some ({ desc := TypeDesc.array 64 5, size := 64, bytes := 64, zero := Value.agg #[Value.int IntKind.u8 0, Value.int IntKind.u8 0, Value.int IntKind.u8 0, Value.int IntKind.u8 0, Value.int IntKind.u8 0, Value.int IntKind.u8 0, Value.int IntKind.u8 0, Value.int IntKind.u8 0, Value.int IntKind.u8 0, Value.int IntKind.u8 0, Value.int IntKind.u8 0, Value.int IntKind.u8 0, Value.int IntKind.u8 0, Value.int IntKind.u8 0, Value.int IntKind.u8 0, Value.int IntKind.u8 0, Value.int IntKind.u8 0, Value.int IntKind.u8 0, Value.int IntKind.u8 0, Value.int IntKind.u8 0, Value.int IntKind.u8 0, Value.int IntKind.u8 0, Value.int IntKind.u8 0, Value.int IntKind.u8 0, Value.int IntKind.u8 0, Value.int IntKind.u8 0, Value.int IntKind.u8 0, Value.int IntKind.u8 0, Value.int IntKind.u8 0, Value.int IntKind.u8 0, Value.int IntKind.u8 0, Value.int IntKind.u8 0, Value.int IntKind.u8 0, Value.int IntKind.u8 0, Value.int IntKind.u8 0, Value.int IntKind.u8 0, Value.int IntKind.u8 0, Value.int IntKind.u8 0, Value.int IntKind.u8 0, Value.int IntKind.u8 0, Value.int IntKind.u8 0, Value.int IntKind.u8 0, Value.int IntKind.u8 0, Value.int IntKind.u8 0, Value.int IntKind.u8 0, Value.int IntKind.u8 0, Value.int IntKind.u8 0, Value.int IntKind.u8 0, Value.int IntKind.u8 0, Value.int IntKind.u8 0, Value.int IntKind.u8 0, Value.int IntKind.u8 0, Value.int IntKind.u8 0, Value.int IntKind.u8 0, Value.int IntKind.u8 0, Value.int IntKind.u8 0, Value.int IntKind.u8 0, Value.int IntKind.u8 0, Value.int IntKind.u8 0, Value.int IntKind.u8 0, Value.int IntKind.u8 0, Value.int IntKind.u8 0, Value.int IntKind.u8 0, Value.int IntKind.u8 0] } : TI) := by kernel_rfl
theorem ty273 : tyOf Tryz.prog 273 = some ({ desc := TypeDesc.array 0 16, size := 0, bytes := 0, zero := Value.agg #[] } : TI) := by kernel_rfl
theorem ty282 : tyOf Tryz.prog 282 = some ({ desc := TypeDesc.struct #[{ name := "Size_", type := 12, offset := 0, embedded := false, tag := "", pkgPath := "", byteOffset := 0 }, { name := "PtrBytes", type := 12, offset := 1, embedded := false, tag := "", pkgPath := "", byteOffset := 8 }, { name := "Hash", type := 206, offset := 2, embedded := false, tag := "", pkgPath := "", byteOffset := 16 }, { name := "TFlag", type := 277, offset := 3, embedded := false, tag := "", pkgPath := "", byteOffset := 20 }, { name := "Align_", type := 5, offset := 4, embedded := false, tag := "", pkgPath := "", byteOffset := 21 }, { name := "FieldAlign_", type := 5, offset := 5, embedded := false, tag := "", pkgPath := "", byteOffset := 22 }, { name := "Kind_", type := 278, offset := 6, embedded := false, tag := "", pkgPath := "", byteOffset := 23 }, { name := "Equal", type := 279, offset := 7, embedded := false, tag := "", pkgPath := "", byteOffset := 24 }, { name := "GCData", type := 223, offset := 8, embedded := false, tag := "", pkgPath := "", byteOffset := 32 }, { name := "Str", type := 280, offset := 9, embedded := false, tag := "", pkgPath := "", byteOffset := 40 }, { name := "PtrToThis", type := 281, offset := 10, embedded := false, tag := "", pkgPath := "", byteOffset := 44 }], size := 11, bytes := 48, zero := Value.agg #[Value.int IntKind.u64 0, Value.int IntKind.u64 0, Value.int IntKind.u32 0, Value.int IntKind.u8 0, Value.int IntKind.u8 0, Value.int IntKind.u8 0, Value.int IntKind.u8 0, Value.nilFunc, Value.pointer none, Value.int IntKind.i32 0, Value.int IntKind.i32 0] } : TI) := by kernel_rfl
theorem ty284 : tyOf Tryz.prog 284 = some ({ desc := TypeDesc.struct #[{ name := "msg", type := 9, offset := 0, embedded := false, tag := "", pkgPath := "fmt", byteOffset := 0 }, { name := "err", type := 181, offset := 1, embedded := false, tag := "", pkgPath := "fmt", byteOffset := 16 }], size := 2, bytes := 32, zero := Value.agg #[Value.string ⟨#[]⟩, Value.nilIface] } : TI) := by kernel_rfl
theorem ty285 : tyOf Tryz.prog 285 = some ({ desc := TypeDesc.struct #[{ name := "msg", type := 9, offset := 0, embedded := false, tag := "", pkgPath := "fmt", byteOffset := 0 }, { name := "err", type := 181, offset := 1, embedded := false, tag := "", pkgPath := "fmt", byteOffset := 16 }], size := 2, bytes := 32, zero := Value.agg #[Value.string ⟨#[]⟩, Value.nilIface] } : TI) := by kernel_rfl
theorem ty286 : tyOf Tryz.prog 286 = some ({ desc := TypeDesc.slice 181, size := 1, bytes := 24, zero := Value.slice none 0 0 } : TI) := by kernel_rfl
theorem ty287 : tyOf Tryz.prog 287 = some ({ desc := TypeDesc.struct #[{ name := "msg", type := 9, offset := 0, embedded := false, tag := "", pkgPath := "fmt", byteOffset := 0 }, { name := "errs", type := 286, offset := 1, embedded := false, tag := "", pkgPath := "fmt", byteOffset := 16 }], size := 2, bytes := 40, zero := Value.agg #[Value.string ⟨#[]⟩, Value.slice none 0 0] } : TI) := by kernel_rfl
theorem ty288 : tyOf Tryz.prog 288 = some ({ desc := TypeDesc.struct #[{ name := "msg", type := 9, offset := 0, embedded := false, tag := "", pkgPath := "fmt", byteOffset := 0 }, { name := "errs", type := 286, offset := 1, embedded := false, tag := "", pkgPath := "fmt", byteOffset := 16 }], size := 2, bytes := 40, zero := Value.agg #[Value.string ⟨#[]⟩, Value.slice none 0 0] } : TI) := by kernel_rfl
def eqT : TypeId → Option Nat := fun t => if t = 47 then some 2 else none
theorem eqOk : ∀ t n, eqT t = some n → EqOk Tryz.prog t n := by
  intro t n h
  unfold eqT at h
  split at h
  · rename_i e; subst e
    simp only [Option.some.injEq] at h; subst h
    exact eqOk_two (by kernel_rfl) (by kernel_rfl) Tryz.underlying3 Tryz.underlying47 (by decide) (by decide)
  · simp at h
attribute [simp] awp_skip awp_seq awp_block awp_exit awp_ret awp_loop awp_rangeF awp_region awp_cond contS_normal contS_exit contS_ret inB_normal inB_exit inB_ret loopS_normal loopS_exit loopS_ret doneS_normal doneS_ret regS_some condS_bool bindS_some rrun_nil rrun_cons outD_some stepG_some rstep_eq callOut_some callOut_none mutCall_none movCall_none frzCall_none frzCall_some alt_none alt_some regrun_false regrun_true noLd_dt mkLd_dt frzLd_dt ldR_dt dtGet rdraw_eq rrunD_nil rrunD_cons contD_eq rstepD_eq outDr_some outC_zero outC_succ needs chk stR opR jk jkL meets appO appU upX shf nums sets Op.operands Call.operands noM_mk callV_fn aop_call take_map_all guardOk aop ev putD ofV ofV1 Value.oneCell' asNat abin aun pickAV scal frz nilS nilC TypeDesc.aggB AV.cells lenAV getAt loadCell loadCells res resL intern internL putCells ownR ownRL ownV ownA wholeB wholeP isAgg1 drops flat kill killL killN killNL clean keep refsL refs once place renL ren ctx G resOk resVars resVar pack viewEs bndOf appX appY ty2 ty3 ty4 ty5 ty9 ty12 ty21 ty22 ty23 ty24 ty27 ty28 ty29 ty33 ty35 ty44 ty46 ty47 ty48 ty51 ty56 ty57 ty66 ty67 ty91 ty97 ty98 ty117 ty118 ty140 ty149 ty167 ty178 ty179 ty181 ty186 ty192 ty197 ty198 ty206 ty208 ty227 ty237 ty250 ty251 ty256 ty257 ty260 ty261 ty262 ty265 ty266 ty267 ty268 ty273 ty282 ty284 ty285 ty286 ty287 ty288 eqT cellInts bld partOk nilAV bytesOf regS_ite allS_map allS_v allS_rep pickAV_bool nn1 tn1 nz1 nz1' lt1 sub slotsLe rngS_normal rngS_exit rngS_ret ctxV ctxH GH GM GV doneF_normal doneF_ret resVarsF resVarF mutCall movCall others setAt setCell ctxM resM doneM_normal doneM_ret
theorem mixed : Tryz.prog.follows .mixedOrders = true := by kernel_rfl
end Go.Proofs.YtkfmhpgnhkdebaaGreatDoor.Ax
namespace Go.Proofs.YtkfmhpgnhkdebaaGreatDoor.Ax
open Go Go.RowKit
def mWithin : List AV → Option AV
  | [.v (.int .i64 n), .v (.int .i64 lo), .v (.int .i64 hi)] => some (.v (.bool (decide (lo ≤ n) && decide (n ≤ hi))))
  | _ => none
set_option linter.unusedSimpArgs false
set_option maxHeartbeats 400000 in
theorem within_ok : FnOk Tryz.prog 99 mWithin := by
  intro args r h
  unfold mWithin at h
  split at h
  · rename_i n lo hi
    simp only [Option.some.injEq] at h; subst h
    refine callOk_of_awp (ctx_ok eqOk .nil) mixed (live := [true, true, true, false, false, false, true]) (dt := []) Tryz.func99 rfl (by kernel_rfl) (by kernel_rfl) fun w0 => ?_
    by_cases h : lo ≤ n
    · simp [Tryz.f99, List.range, List.range.loop, h]
    · simp [Tryz.f99, List.range, List.range.loop, h]
  · simp at h
theorem lens_ints {nl : Bool} {xs : List Int} : lens (.sl nl 1 (xs.map int)) ↔ xs.length ≤ 9223372036854775807 ∧ (nl = true → xs = []) := by
  simp [lens, lensL_map, int]
end Go.Proofs.YtkfmhpgnhkdebaaGreatDoor.Ax
namespace Go.Proofs.YtkfmhpgnhkdebaaGreatDoor.Ax
open Go Go.RowKit
set_option linter.unusedSimpArgs false
theorem mWithin_at (n lo hi : Int) : mWithin [.v (.int .i64 n), .v (.int .i64 lo), .v (.int .i64 hi)] = some (.v (.bool (decide (lo ≤ n) && decide (n ≤ hi)))) := rfl
set_option maxHeartbeats 400000 in
theorem l01In_ok : FnOk Tryz.prog 96 mWithin := by
  intro args r h
  unfold mWithin at h
  split at h
  · rename_i n lo hi
    simp only [Option.some.injEq] at h; subst h
    refine callOk_of_awp (ctx_ok eqOk .nil) mixed (live := [true, true, true, false, false, false, true]) (dt := []) Tryz.func96 rfl (by kernel_rfl) (by kernel_rfl) fun w0 => ?_
    by_cases h : lo ≤ n
    · simp [Tryz.f96, List.range, List.range.loop, h]
    · simp [Tryz.f96, List.range, List.range.loop, h]
  · simp at h
noncomputable def mGcd (lo : Int) : List AV → Option AV := mk (fun (p : Int × Int) => lo ≤ p.1 ∧ p.1 ≤ 4611686018427387904 ∧ lo ≤ p.2 ∧ p.2 ≤ 4611686018427387904) (fun p => [int p.1, int p.2]) (fun p => int (Int.gcd p.1 p.2))
theorem mGcd_at (lo a b : Int) (h1 : lo ≤ a) (h2 : a ≤ 4611686018427387904) (h3 : lo ≤ b) (h4 : b ≤ 4611686018427387904) : mGcd lo [.v (.int .i64 a), .v (.int .i64 b)] = some (.v (.int .i64 (Int.gcd a b))) :=
  mk_eq (enc := fun (p : Int × Int) => [int p.1, int p.2]) (x := (a, b)) (by rintro ⟨a, b⟩ ⟨c, d⟩ h; simp [int] at h; simp [h]) ⟨h1, h2, h3, h4⟩
theorem gcd_step (x y : Int) : Int.gcd y (x.tmod y) = Int.gcd x y := by
  simp only [Int.gcd, Int.natAbs_tmod]
  rw [Nat.gcd_comm x.natAbs y.natAbs, Nat.gcd_comm y.natAbs (x.natAbs % y.natAbs), ← Nat.gcd_rec]
theorem tmod_small (x y : Int) (h : y ≠ 0) : (x.tmod y).natAbs < y.natAbs := by
  rw [Int.natAbs_tmod]; exact Nat.mod_lt _ (by omega)
set_option maxHeartbeats 400000 in
theorem l02Gcd_ok : FnOk Tryz.prog 175 (mGcd 0) := by
  refine mk_ok fun ⟨a, b⟩ ⟨ha, ha', hb, hb'⟩ => ?_
  simp only at ha ha' hb hb'
  refine callOk_of_awp (ctx_ok eqOk .nil) mixed (live := [true, true, false, false, true, true, false, true]) (dt := []) Tryz.func175 rfl (by kernel_rfl) (by kernel_rfl) fun w0 => ?_
  simp [Tryz.f175, List.range, List.range.loop, int]
  refine awp_loop_of (ctx_ok eqOk .nil) mixed (live := [true, true, false, false, true, true, false, true]) [true, true, false, false, true] (α := {p : Int × Int // 0 ≤ p.1 ∧ 0 ≤ p.2 ∧ Int.gcd p.1 p.2 = Int.gcd a b})
    (fun p => ⟨[int p.1.1, int p.1.2, .junk, .junk, int 0, .junk, .junk, .junk, .junk, .junk, .junk, .junk, .junk, .junk], []⟩) (fun p => p.1.2.toNat) ⟨(a, b), ha, hb, rfl⟩ (by simp [sub, slotsLe, clean, keep, refsL, refs, once, place, renL, ren, List.replicate, int, bool, int]) ?_
  rintro ⟨⟨x, y⟩, hx, hy, hg⟩
  simp only at hx hy hg
  by_cases h : 0 < y
  · have hne : y ≠ 0 := by omega
    simp [List.range, List.range.loop, int, h, hne]
    refine ⟨⟨(y, x.tmod y), by omega, Int.tmod_nonneg _ hx, ?_⟩, ?_, ?_⟩
    · rw [gcd_step]; exact hg
    · simp [sub, slotsLe, clean, keep, refsL, refs, once, place, renL, ren, List.replicate, int, bool, int]
    · have := tmod_small x y hne; have := Int.tmod_nonneg y hx; simp only; omega
  · have : y = 0 := by omega
    subst this
    simp [List.range, List.range.loop, int]
    rw [← hg]; simp [Int.gcd]; omega
set_option maxHeartbeats 400000 in
theorem gcd_ok : FnOk Tryz.prog 167 (mGcd (-4611686018427387904)) := by
  refine mk_ok fun ⟨a, b⟩ ⟨ha, ha', hb, hb'⟩ => ?_
  simp only at ha ha' hb hb'
  refine callOk_of_awp (ctx_ok eqOk .nil) mixed (live := [true, true, false, false, true, false, true]) (dt := [(2, ⟨[], [], []⟩)]) Tryz.func167 rfl (by kernel_rfl) (by kernel_rfl) fun w0 => ?_
  simp [Tryz.f167, List.range, List.range.loop, int]
  refine awp_loop_of (ctx_ok eqOk .nil) mixed (live := [true, true, false, false, true, false, true]) [true, true, false, false, true] (α := {p : Int × Int // (-4611686018427387904 ≤ p.1 ∧ p.1 ≤ 4611686018427387904) ∧ (-4611686018427387904 ≤ p.2 ∧ p.2 ≤ 4611686018427387904) ∧ Int.gcd p.1 p.2 = Int.gcd a b})
    (fun p => ⟨[int p.1.1, int p.1.2, .junk, .junk, int 0, .junk, .junk, .junk, .junk, .junk, .junk, .junk, .junk, .junk, .junk], []⟩) (fun p => p.1.2.natAbs) ⟨(a, b), ⟨ha, ha'⟩, ⟨hb, hb'⟩, rfl⟩ (by simp [sub, slotsLe, clean, keep, refsL, refs, once, place, renL, ren, List.replicate, int, bool, int]) ?_
  rintro ⟨⟨x, y⟩, hx, hy, hg⟩
  simp only at hx hy hg
  by_cases h : y = 0
  · subst h
    simp [List.range, List.range.loop, int]
    rw [wrapI (by omega) (by omega), ← hg]
    simp [Int.gcd]; omega
  · simp [List.range, List.range.loop, int, h]
    refine ⟨⟨(y, x.tmod y), hy, ?_, ?_⟩, ?_, ?_⟩
    · have := tmod_small x y h; simp only; omega
    · rw [gcd_step]; exact hg
    · simp [sub, slotsLe, clean, keep, refsL, refs, once, place, renL, ren, List.replicate, int, bool, int]
    · exact tmod_small x y h
def frac (f : Int × Int) : AV := .agg [.v (.int .i64 f.1), .v (.int .i64 f.2)]
def fracs (nl : Bool) (xs : List (Int × Int)) : AV := .sl nl 2 (xs.map frac)
theorem frac_inj {a b : Int × Int} : frac a = frac b ↔ a = b := by
  obtain ⟨a, a'⟩ := a; obtain ⟨b, b'⟩ := b; simp [frac]
theorem map_frac_inj {a b : List (Int × Int)} : a.map frac = b.map frac ↔ a = b := by
  constructor
  · intro h; exact (List.map_inj_right (fun x y => frac_inj.1)).1 h
  · rintro rfl; rfl
def fracOk (f : Int × Int) : Bool := (decide (-1000000000 ≤ f.1) && decide (f.1 ≤ 1000000000)) && (decide (1 ≤ f.2) && decide (f.2 ≤ 1000000000)) && decide (Int.gcd f.1 f.2 = 1)
noncomputable def mFracOk : List AV → Option AV := mk (fun _ => True) (fun (f : Int × Int) => [frac f]) (fun f => bool (fracOk f))
theorem mFracOk_at (t b : Int) : mFracOk [.agg [.v (.int .i64 t), .v (.int .i64 b)]] = some (.v (.bool (fracOk (t, b)))) :=
  mk_eq (enc := fun f => [frac f]) (x := (t, b)) (by intro x y h; simp [frac_inj] at h; simp [h]) trivial
set_option maxHeartbeats 1000000 in
theorem implFractionOk_ok : FnOk Tryz.prog 111 mFracOk := by
  refine mk_ok fun ⟨t, b⟩ _ => ?_
  have hG : FnsOk Tryz.prog [(99, mWithin), (167, mGcd (-4611686018427387904))] := .cons within_ok (.cons gcd_ok .nil)
  refine callOk_of_awp (ctx_ok eqOk hG) mixed (live := [true, true, true]) (dt := []) Tryz.func111 rfl (by kernel_rfl) (by kernel_rfl) fun w0 => ?_
  by_cases h1 : -1000000000 ≤ t ∧ t ≤ 1000000000
  · by_cases h2 : 1 ≤ b ∧ b ≤ 1000000000
    · simp [Tryz.f111, List.range, List.range.loop, h1, h2, frac, mWithin_at, mGcd_at (-4611686018427387904) t b (by omega) (by omega) (by omega) (by omega), bool, fracOk]
      rw [Bool.eq_iff_iff]; simp; omega
    · have h2' : (decide (1 ≤ b) && decide (b ≤ 1000000000)) = false := by simpa using h2
      simp [Tryz.f111, List.range, List.range.loop, h1, h2', frac, mWithin_at, bool, fracOk]
  · have h1' : (decide (-1000000000 ≤ t) && decide (t ≤ 1000000000)) = false := by simpa using h1
    simp [Tryz.f111, List.range, List.range.loop, h1', frac, mWithin_at, bool, fracOk]
theorem gcd_abs (t b : Int) : Int.gcd (max t (-t)) b = Int.gcd t b := by
  simp only [Int.gcd]
  congr 1; omega
set_option maxHeartbeats 1000000 in
theorem specFractionOk_ok : FnOk Tryz.prog 97 mFracOk := by
  refine mk_ok fun ⟨t, b⟩ _ => ?_
  have hG : FnsOk Tryz.prog [(96, mWithin), (175, mGcd 0)] := .cons l01In_ok (.cons l02Gcd_ok .nil)
  refine callOk_of_awp (ctx_ok eqOk hG) mixed (live := [true, true, true]) (dt := []) Tryz.func97 rfl (by kernel_rfl) (by kernel_rfl) fun w0 => ?_
  by_cases h1 : -1000000000 ≤ t ∧ t ≤ 1000000000
  · by_cases h2 : 1 ≤ b ∧ b ≤ 1000000000
    · have hw : IntKind.i64.wrap (-t) = -t := wrapI (by omega) (by omega)
      simp [Tryz.f97, List.range, List.range.loop, h1, h2, frac, mWithin_at, hw, mGcd_at 0 (max t (-t)) b (by omega) (by omega) (by omega) (by omega), bool, fracOk]
      rw [gcd_abs, Bool.eq_iff_iff]; simp; omega
    · have h2' : (decide (1 ≤ b) && decide (b ≤ 1000000000)) = false := by simpa using h2
      simp [Tryz.f97, List.range, List.range.loop, h1, h2', frac, mWithin_at, bool, fracOk]
  · have h1' : (decide (-1000000000 ≤ t) && decide (t ≤ 1000000000)) = false := by simpa using h1
    simp [Tryz.f97, List.range, List.range.loop, h1', frac, mWithin_at, bool, fracOk]
end Go.Proofs.YtkfmhpgnhkdebaaGreatDoor.Ax
namespace Go.Proofs.YtkfmhpgnhkdebaaGreatDoor.Ax
open Go Go.RowKit
set_option linter.unusedSimpArgs false
section
variable {α : Type} {f : α → AV} {z : AV} {xs : List α} {k : Nat}
end
end Go.Proofs.YtkfmhpgnhkdebaaGreatDoor.Ax
namespace Go.Proofs.YtkfmhpgnhkdebaaGreatDoor.Ax
open Go Go.RowKit
end Go.Proofs.YtkfmhpgnhkdebaaGreatDoor.Ax
namespace Go.Proofs.YtkfmhpgnhkdebaaGreatDoor.Ax
open Go Go.RowKit
set_option linter.unusedSimpArgs false
end Go.Proofs.YtkfmhpgnhkdebaaGreatDoor.Ax
namespace Go.Proofs.YtkfmhpgnhkdebaaGreatDoor.Ax
open Go Go.RowKit
set_option linter.unusedSimpArgs false
def row (p : Bool × List Int) : AV := .sl p.1 1 (p.2.map int)
def intss (nl : Bool) (xss : List (Bool × List Int)) : AV := .sl nl 1 (xss.map row)
theorem row_inj {p q : Bool × List Int} : row p = row q ↔ p = q := by
  obtain ⟨a, b⟩ := p; obtain ⟨c, d⟩ := q
  simp [row, map_int_inj]
theorem map_row_inj {a b : List (Bool × List Int)} : a.map row = b.map row ↔ a = b :=
  ⟨fun h => (List.map_inj_right (fun x y => row_inj.1)).1 h, fun h => by rw [h]⟩
theorem lens_intss {nl : Bool} {xss : List (Bool × List Int)} : lens (.sl nl 1 (xss.map row)) ↔ (xss.length ≤ 9223372036854775807 ∧ (nl = true → xss = [])) ∧ ∀ x ∈ xss, x.2.length ≤ 9223372036854775807 ∧ (x.1 = true → x.2 = []) := by
  simp only [lens, lensL_map, row, List.length_map, List.map_eq_nil_iff, lens_ints]
def own (xss : List (Bool × List Int)) : List (Bool × List Int) := xss.map fun p => (false, p.2)
end Go.Proofs.YtkfmhpgnhkdebaaGreatDoor.Ax
namespace Go.Proofs.YtkfmhpgnhkdebaaGreatDoor.Ax
open Go Go.RowKit
theorem ownP : ownKnob Tryz.prog.godebug = none := by kernel_rfl
theorem laidOutP : laidOutB Tryz.prog = true := by kernel_rfl
end Go.Proofs.YtkfmhpgnhkdebaaGreatDoor.Ax
