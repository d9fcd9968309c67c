/-
 What this seat's program says of the types that the proofs meet. No condition.
-/
import Derived.Test.YtompijgfpeibnaaGreatDoorCK4
import Derived.Test.YtompijgfpeibnaaGreatDoorProg
import Derived.Test.YtompijgfpeibnaaGreatDoorRows
namespace Go.Proofs.YtompijgfpeibnaaGreatDoor.Ax
open Go Go.RowKit
theorem ty2 : tyOf Tryz.prog 2 = some ({ desc := TypeDesc.int IntKind.i64, size := 1, bytes := 8, zero := Value.int IntKind.i64 0 } : TI) := by kernel_rfl
theorem ty3 : tyOf Tryz.prog 3 = some ({ desc := TypeDesc.int IntKind.i64, size := 1, bytes := 8, zero := Value.int IntKind.i64 0 } : TI) := by kernel_rfl
theorem ty4 : tyOf Tryz.prog 4 = some ({ desc := TypeDesc.bool, size := 1, bytes := 1, zero := Value.bool false } : TI) := by kernel_rfl
theorem ty5 : tyOf Tryz.prog 5 = some ({ desc := TypeDesc.int IntKind.u8, size := 1, bytes := 1, zero := Value.int IntKind.u8 0 } : TI) := by kernel_rfl
theorem ty9 : tyOf Tryz.prog 9 = some ({ desc := TypeDesc.string, size := 1, bytes := 16, zero := Value.string ⟨#[]⟩ } : TI) := by kernel_rfl
theorem ty12 : tyOf Tryz.prog 12 = some ({ desc := TypeDesc.int IntKind.u64, size := 1, bytes := 8, zero := Value.int IntKind.u64 0 } : TI) := by kernel_rfl
theorem ty21 : tyOf Tryz.prog 21 = some ({ desc := TypeDesc.int IntKind.i32, size := 1, bytes := 4, zero := Value.int IntKind.i32 0 } : TI) := by kernel_rfl
theorem ty22 : tyOf Tryz.prog 22 = some ({ desc := TypeDesc.slice 5, size := 1, bytes := 24, zero := Value.slice none 0 0 } : TI) := by kernel_rfl
theorem ty27 : tyOf Tryz.prog 27 = some ({ desc := TypeDesc.slice 3, size := 1, bytes := 24, zero := Value.slice none 0 0 } : TI) := by kernel_rfl
theorem ty28 : tyOf Tryz.prog 28 = some ({ desc := TypeDesc.slice 9, size := 1, bytes := 24, zero := Value.slice none 0 0 } : TI) := by kernel_rfl
theorem ty32 : tyOf Tryz.prog 32 = some ({ desc := TypeDesc.slice 80, size := 1, bytes := 24, zero := Value.slice none 0 0 } : TI) := by kernel_rfl
theorem ty33 : tyOf Tryz.prog 33 = some ({ desc := TypeDesc.struct #[{ name := "Size", type := 3, offset := 0, embedded := false, tag := "", pkgPath := "", byteOffset := 0 }, { name := "Votes", type := 32, offset := 1, embedded := false, tag := "", pkgPath := "", byteOffset := 8 }], size := 2, bytes := 32, zero := Value.agg #[Value.int IntKind.i64 0, Value.slice none 0 0] } : TI) := by kernel_rfl
theorem ty34 : tyOf Tryz.prog 34 = some ({ desc := TypeDesc.struct #[{ name := "Size", type := 3, offset := 0, embedded := false, tag := "", pkgPath := "", byteOffset := 0 }, { name := "Votes", type := 32, offset := 1, embedded := false, tag := "", pkgPath := "", byteOffset := 8 }], size := 2, bytes := 32, zero := Value.agg #[Value.int IntKind.i64 0, Value.slice none 0 0] } : TI) := by kernel_rfl
theorem ty43 : tyOf Tryz.prog 43 = some ({ desc := TypeDesc.struct #[{ name := "addr", type := 42, offset := 0, embedded := false, tag := "", pkgPath := "strings", byteOffset := 0 }, { name := "buf", type := 22, offset := 1, embedded := false, tag := "", pkgPath := "strings", byteOffset := 8 }], size := 2, bytes := 32, zero := Value.agg #[Value.pointer none, Value.slice none 0 0] } : TI) := by kernel_rfl
theorem ty44 : tyOf Tryz.prog 44 = some ({ desc := TypeDesc.struct #[{ name := "addr", type := 42, offset := 0, embedded := false, tag := "", pkgPath := "strings", byteOffset := 0 }, { name := "buf", type := 22, offset := 1, embedded := false, tag := "", pkgPath := "strings", byteOffset := 8 }], size := 2, bytes := 32, zero := Value.agg #[Value.pointer none, Value.slice none 0 0] } : TI) := by kernel_rfl
theorem ty46 : tyOf Tryz.prog 46 = some ({ desc := TypeDesc.interface #[("Error", 49)], size := 1, bytes := 16, zero := Value.nilIface } : TI) := by kernel_rfl
theorem ty59 : tyOf Tryz.prog 59 = some ({ desc := TypeDesc.struct #[{ name := "p", type := 34, offset := 0, embedded := false, tag := "", pkgPath := "loop.example/g03202/impl", byteOffset := 0 }, { name := "words", type := 28, offset := 2, embedded := false, tag := "", pkgPath := "loop.example/g03202/impl", byteOffset := 32 }, { name := "taken", type := 3, offset := 3, embedded := false, tag := "", pkgPath := "loop.example/g03202/impl", byteOffset := 56 }, { name := "bad", type := 4, offset := 4, embedded := false, tag := "", pkgPath := "loop.example/g03202/impl", byteOffset := 64 }], size := 5, bytes := 72, zero := Value.agg #[Value.int IntKind.i64 0, Value.slice none 0 0, Value.slice none 0 0, Value.int IntKind.i64 0, Value.bool false] } : TI) := by kernel_rfl
theorem ty60 : tyOf Tryz.prog 60 = some ({ desc := TypeDesc.struct #[{ name := "p", type := 34, offset := 0, embedded := false, tag := "", pkgPath := "loop.example/g03202/impl", byteOffset := 0 }, { name := "words", type := 28, offset := 2, embedded := false, tag := "", pkgPath := "loop.example/g03202/impl", byteOffset := 32 }, { name := "taken", type := 3, offset := 3, embedded := false, tag := "", pkgPath := "loop.example/g03202/impl", byteOffset := 56 }, { name := "bad", type := 4, offset := 4, embedded := false, tag := "", pkgPath := "loop.example/g03202/impl", byteOffset := 64 }], size := 5, bytes := 72, zero := Value.agg #[Value.int IntKind.i64 0, Value.slice none 0 0, Value.slice none 0 0, Value.int IntKind.i64 0, Value.bool false] } : TI) := by kernel_rfl
theorem ty62 : tyOf Tryz.prog 62 = some ({ desc := TypeDesc.struct #[{ name := "b", type := 22, offset := 0, embedded := false, tag := "", pkgPath := "loop.example/g03202/spec", byteOffset := 0 }, { name := "i", type := 3, offset := 1, embedded := false, tag := "", pkgPath := "loop.example/g03202/spec", byteOffset := 24 }, { name := "h", type := 3, offset := 2, embedded := false, tag := "", pkgPath := "loop.example/g03202/spec", byteOffset := 32 }], size := 3, bytes := 40, zero := Value.agg #[Value.slice none 0 0, Value.int IntKind.i64 0, Value.int IntKind.i64 0] } : TI) := by kernel_rfl
theorem ty63 : tyOf Tryz.prog 63 = some ({ desc := TypeDesc.struct #[{ name := "b", type := 22, offset := 0, embedded := false, tag := "", pkgPath := "loop.example/g03202/spec", byteOffset := 0 }, { name := "i", type := 3, offset := 1, embedded := false, tag := "", pkgPath := "loop.example/g03202/spec", byteOffset := 24 }, { name := "h", type := 3, offset := 2, embedded := false, tag := "", pkgPath := "loop.example/g03202/spec", byteOffset := 32 }], size := 3, bytes := 40, zero := Value.agg #[Value.slice none 0 0, Value.int IntKind.i64 0, Value.int IntKind.i64 0] } : TI) := by kernel_rfl
theorem ty64 : tyOf Tryz.prog 64 = some ({ desc := TypeDesc.int IntKind.u64, size := 1, bytes := 8, zero := Value.int IntKind.u64 0 } : TI) := by kernel_rfl
theorem ty75 : tyOf Tryz.prog 75 = some ({ desc := TypeDesc.func #[164] #[] false, size := 1, bytes := 8, zero := Value.nilFunc } : TI) := by kernel_rfl
theorem ty79 : tyOf Tryz.prog 79 = some ({ desc := TypeDesc.struct #[{ name := "Ranking", type := 27, offset := 0, embedded := false, tag := "", pkgPath := "", byteOffset := 0 }, { name := "Count", type := 3, offset := 1, embedded := false, tag := "", pkgPath := "", byteOffset := 24 }], size := 2, bytes := 32, zero := Value.agg #[Value.slice none 0 0, Value.int IntKind.i64 0] } : TI) := by kernel_rfl
theorem ty80 : tyOf Tryz.prog 80 = some ({ desc := TypeDesc.struct #[{ name := "Ranking", type := 27, offset := 0, embedded := false, tag := "", pkgPath := "", byteOffset := 0 }, { name := "Count", type := 3, offset := 1, embedded := false, tag := "", pkgPath := "", byteOffset := 24 }], size := 2, bytes := 32, zero := Value.agg #[Value.slice none 0 0, Value.int IntKind.i64 0] } : TI) := by kernel_rfl
theorem ty82 : tyOf Tryz.prog 82 = some ({ desc := TypeDesc.slice 27, size := 1, bytes := 24, zero := Value.slice none 0 0 } : TI) := by kernel_rfl
theorem ty83 : tyOf Tryz.prog 83 = some ({ desc := TypeDesc.struct #[{ name := "Men", type := 82, offset := 0, embedded := false, tag := "", pkgPath := "", byteOffset := 0 }, { name := "Women", type := 82, offset := 1, embedded := false, tag := "", pkgPath := "", byteOffset := 24 }], size := 2, bytes := 48, zero := Value.agg #[Value.slice none 0 0, Value.slice none 0 0] } : TI) := by kernel_rfl
theorem ty84 : tyOf Tryz.prog 84 = some ({ desc := TypeDesc.struct #[{ name := "Men", type := 82, offset := 0, embedded := false, tag := "", pkgPath := "", byteOffset := 0 }, { name := "Women", type := 82, offset := 1, embedded := false, tag := "", pkgPath := "", byteOffset := 24 }], size := 2, bytes := 48, zero := Value.agg #[Value.slice none 0 0, Value.slice none 0 0] } : TI) := by kernel_rfl
theorem ty88 : tyOf Tryz.prog 88 = some ({ desc := TypeDesc.struct #[{ name := "many", type := 3, offset := 0, embedded := false, tag := "", pkgPath := "loop.example/g03202/impl", byteOffset := 0 }, { name := "run", type := 49, offset := 1, embedded := false, tag := "", pkgPath := "loop.example/g03202/impl", byteOffset := 8 }], size := 2, bytes := 16, zero := Value.agg #[Value.int IntKind.i64 0, Value.nilFunc] } : TI) := by kernel_rfl
theorem ty141 : tyOf Tryz.prog 141 = some ({ desc := TypeDesc.slice 145, size := 1, bytes := 24, zero := Value.slice none 0 0 } : TI) := by kernel_rfl
theorem ty145 : tyOf Tryz.prog 145 = some ({ desc := TypeDesc.slice 206, size := 1, bytes := 24, zero := Value.slice none 0 0 } : TI) := by kernel_rfl
theorem ty148 : tyOf Tryz.prog 148 = some ({ desc := TypeDesc.array 24 5, size := 24, bytes := 24, zero := Value.agg #[Value.int IntKind.u8 0, Value.int IntKind.u8 0, Value.int IntKind.u8 0, Value.int IntKind.u8 0, Value.int IntKind.u8 0, Value.int IntKind.u8 0, Value.int IntKind.u8 0, Value.int IntKind.u8 0, Value.int IntKind.u8 0, Value.int IntKind.u8 0, Value.int IntKind.u8 0, Value.int IntKind.u8 0, Value.int IntKind.u8 0, Value.int IntKind.u8 0, Value.int IntKind.u8 0, Value.int IntKind.u8 0, Value.int IntKind.u8 0, Value.int IntKind.u8 0, Value.int IntKind.u8 0, Value.int IntKind.u8 0, Value.int IntKind.u8 0, Value.int IntKind.u8 0, Value.int IntKind.u8 0, Value.int IntKind.u8 0] } : TI) := by kernel_rfl
theorem ty149 : tyOf Tryz.prog 149 = some ({ desc := TypeDesc.int IntKind.u64, size := 1, bytes := 8, zero := Value.int IntKind.u64 0 } : TI) := by kernel_rfl
theorem ty189 : tyOf Tryz.prog 189 = some ({ desc := TypeDesc.func #[132] #[] false, size := 1, bytes := 8, zero := Value.nilFunc } : TI) := by kernel_rfl
theorem ty204 : tyOf Tryz.prog 204 = some ({ desc := TypeDesc.array 2 3, size := 2, bytes := 16, zero := Value.agg #[Value.int IntKind.i64 0, Value.int IntKind.i64 0] } : TI) := by kernel_rfl
theorem ty205 : tyOf Tryz.prog 205 = some ({ desc := TypeDesc.struct #[{ name := "Top", type := 3, offset := 0, embedded := false, tag := "", pkgPath := "", byteOffset := 0 }, { name := "Bottom", type := 3, offset := 1, embedded := false, tag := "", pkgPath := "", byteOffset := 8 }], size := 2, bytes := 16, zero := Value.agg #[Value.int IntKind.i64 0, Value.int IntKind.i64 0] } : TI) := by kernel_rfl
theorem ty206 : tyOf Tryz.prog 206 = some ({ desc := TypeDesc.struct #[{ name := "Top", type := 3, offset := 0, embedded := false, tag := "", pkgPath := "", byteOffset := 0 }, { name := "Bottom", type := 3, offset := 1, embedded := false, tag := "", pkgPath := "", byteOffset := 8 }], size := 2, bytes := 16, zero := Value.agg #[Value.int IntKind.i64 0, Value.int IntKind.i64 0] } : TI) := by kernel_rfl
theorem ty214 : tyOf Tryz.prog 214 = some ({ desc := TypeDesc.array 20 149, size := 20, bytes := 160, zero := Value.agg #[Value.int IntKind.u64 0, Value.int IntKind.u64 0, Value.int IntKind.u64 0, Value.int IntKind.u64 0, Value.int IntKind.u64 0, Value.int IntKind.u64 0, Value.int IntKind.u64 0, Value.int IntKind.u64 0, Value.int IntKind.u64 0, Value.int IntKind.u64 0, Value.int IntKind.u64 0, Value.int IntKind.u64 0, Value.int IntKind.u64 0, Value.int IntKind.u64 0, Value.int IntKind.u64 0, Value.int IntKind.u64 0, Value.int IntKind.u64 0, Value.int IntKind.u64 0, Value.int IntKind.u64 0, Value.int IntKind.u64 0] } : TI) := by kernel_rfl
theorem ty215 : tyOf Tryz.prog 215 = some ({ desc := TypeDesc.int IntKind.u32, size := 1, bytes := 4, zero := Value.int IntKind.u32 0 } : TI) := by kernel_rfl
theorem ty216 : tyOf Tryz.prog 216 = some ({ desc := TypeDesc.array 65 5, size := 65, bytes := 65, zero := Value.agg #[Value.int IntKind.u8 0, Value.int IntKind.u8 0, Value.int IntKind.u8 0, Value.int IntKind.u8 0, Value.int IntKind.u8 0, Value.int IntKind.u8 0, Value.int IntKind.u8 0, Value.int IntKind.u8 0, Value.int IntKind.u8 0, Value.int IntKind.u8 0, Value.int IntKind.u8 0, Value.int IntKind.u8 0, Value.int IntKind.u8 0, Value.int IntKind.u8 0, Value.int IntKind.u8 0, Value.int IntKind.u8 0, Value.int IntKind.u8 0, Value.int IntKind.u8 0, Value.int IntKind.u8 0, Value.int IntKind.u8 0, Value.int IntKind.u8 0, Value.int IntKind.u8 0, Value.int IntKind.u8 0, Value.int IntKind.u8 0, Value.int IntKind.u8 0, Value.int IntKind.u8 0, Value.int IntKind.u8 0, Value.int IntKind.u8 0, Value.int IntKind.u8 0, Value.int IntKind.u8 0, Value.int IntKind.u8 0, Value.int IntKind.u8 0, Value.int IntKind.u8 0, Value.int IntKind.u8 0, Value.int IntKind.u8 0, Value.int IntKind.u8 0, Value.int IntKind.u8 0, Value.int IntKind.u8 0, Value.int IntKind.u8 0, Value.int IntKind.u8 0, Value.int IntKind.u8 0, Value.int IntKind.u8 0, Value.int IntKind.u8 0, Value.int IntKind.u8 0, Value.int IntKind.u8 0, Value.int IntKind.u8 0, Value.int IntKind.u8 0, Value.int IntKind.u8 0, Value.int IntKind.u8 0, Value.int IntKind.u8 0, Value.int IntKind.u8 0, Value.int IntKind.u8 0, Value.int IntKind.u8 0, Value.int IntKind.u8 0, Value.int IntKind.u8 0, Value.int IntKind.u8 0, Value.int IntKind.u8 0, Value.int IntKind.u8 0, Value.int IntKind.u8 0, Value.int IntKind.u8 0, Value.int IntKind.u8 0, Value.int IntKind.u8 0, Value.int IntKind.u8 0, Value.int IntKind.u8 0, Value.int IntKind.u8 0] } : TI) := by kernel_rfl
theorem ty218 : tyOf Tryz.prog 218 = some ({ desc := TypeDesc.int IntKind.i64, size := 1, bytes := 8, zero := Value.int IntKind.i64 0 } : TI) := by kernel_rfl
theorem ty228 : tyOf Tryz.prog 228 = some ({ desc := TypeDesc.slice 28, size := 1, bytes := 24, zero := Value.slice none 0 0 } : TI) := by kernel_rfl
theorem ty241 : tyOf Tryz.prog 241 = some ({ desc := TypeDesc.func #[110] #[] false, size := 1, bytes := 8, zero := Value.nilFunc } : TI) := by kernel_rfl
theorem ty255 : tyOf Tryz.prog 255 = some ({ desc := TypeDesc.struct #[{ name := "lo", type := 5, offset := 0, embedded := false, tag := "", pkgPath := "unicode/utf8", byteOffset := 0 }, { name := "hi", type := 5, offset := 1, embedded := false, tag := "", pkgPath := "unicode/utf8", byteOffset := 1 }], size := 2, bytes := 2, zero := Value.agg #[Value.int IntKind.u8 0, Value.int IntKind.u8 0] } : TI) := by kernel_rfl
theorem ty256 : tyOf Tryz.prog 256 = some ({ desc := TypeDesc.struct #[{ name := "lo", type := 5, offset := 0, embedded := false, tag := "", pkgPath := "unicode/utf8", byteOffset := 0 }, { name := "hi", type := 5, offset := 1, embedded := false, tag := "", pkgPath := "unicode/utf8", byteOffset := 1 }], size := 2, bytes := 2, zero := Value.agg #[Value.int IntKind.u8 0, Value.int IntKind.u8 0] } : TI) := by kernel_rfl
theorem ty257 : tyOf Tryz.prog 257 = some ({ desc := TypeDesc.array 16 256, size := 32, bytes := 32, zero := Value.agg #[Value.int IntKind.u8 0, Value.int IntKind.u8 0, Value.int IntKind.u8 0, Value.int IntKind.u8 0, Value.int IntKind.u8 0, Value.int IntKind.u8 0, Value.int IntKind.u8 0, Value.int IntKind.u8 0, Value.int IntKind.u8 0, Value.int IntKind.u8 0, Value.int IntKind.u8 0, Value.int IntKind.u8 0, Value.int IntKind.u8 0, Value.int IntKind.u8 0, Value.int IntKind.u8 0, Value.int IntKind.u8 0, Value.int IntKind.u8 0, Value.int IntKind.u8 0, Value.int IntKind.u8 0, Value.int IntKind.u8 0, Value.int IntKind.u8 0, Value.int IntKind.u8 0, Value.int IntKind.u8 0, Value.int IntKind.u8 0, Value.int IntKind.u8 0, Value.int IntKind.u8 0, Value.int IntKind.u8 0, Value.int IntKind.u8 0, Value.int IntKind.u8 0, Value.int IntKind.u8 0, Value.int IntKind.u8 0, Value.int IntKind.u8 0] } : TI) := by kernel_rfl
theorem ty261 : tyOf Tryz.prog 261 = some ({ desc := TypeDesc.struct #[{ name := "Func", type := 9, offset := 0, embedded := false, tag := "", pkgPath := "", byteOffset := 0 }, { name := "Num", type := 9, offset := 1, embedded := false, tag := "", pkgPath := "", byteOffset := 16 }, { name := "Err", type := 46, offset := 2, embedded := false, tag := "", pkgPath := "", byteOffset := 32 }], size := 3, bytes := 48, zero := Value.agg #[Value.string ⟨#[]⟩, Value.string ⟨#[]⟩, Value.nilIface] } : TI) := by kernel_rfl
theorem ty262 : tyOf Tryz.prog 262 = some ({ desc := TypeDesc.struct #[{ name := "Func", type := 9, offset := 0, embedded := false, tag := "", pkgPath := "", byteOffset := 0 }, { name := "Num", type := 9, offset := 1, embedded := false, tag := "", pkgPath := "", byteOffset := 16 }, { name := "Err", type := 46, offset := 2, embedded := false, tag := "", pkgPath := "", byteOffset := 32 }], size := 3, bytes := 48, zero := Value.agg #[Value.string ⟨#[]⟩, Value.string ⟨#[]⟩, Value.nilIface] } : TI) := by kernel_rfl
theorem ty277 : tyOf Tryz.prog 277 = some ({ desc := TypeDesc.array 32 5, size := 32, bytes := 32, zero := Value.agg #[Value.int IntKind.u8 0, Value.int IntKind.u8 0, Value.int IntKind.u8 0, Value.int IntKind.u8 0, Value.int IntKind.u8 0, Value.int IntKind.u8 0, Value.int IntKind.u8 0, Value.int IntKind.u8 0, Value.int IntKind.u8 0, Value.int IntKind.u8 0, Value.int IntKind.u8 0, Value.int IntKind.u8 0, Value.int IntKind.u8 0, Value.int IntKind.u8 0, Value.int IntKind.u8 0, Value.int IntKind.u8 0, Value.int IntKind.u8 0, Value.int IntKind.u8 0, Value.int IntKind.u8 0, Value.int IntKind.u8 0, Value.int IntKind.u8 0, Value.int IntKind.u8 0, Value.int IntKind.u8 0, Value.int IntKind.u8 0, Value.int IntKind.u8 0, Value.int IntKind.u8 0, Value.int IntKind.u8 0, Value.int IntKind.u8 0, Value.int IntKind.u8 0, Value.int IntKind.u8 0, Value.int IntKind.u8 0, Value.int IntKind.u8 0] } : TI) := by kernel_rfl
theorem ty278 : tyOf Tryz.prog 278 = some ({ desc := TypeDesc.array 64 5, size := 64, bytes := 64, zero := Value.agg #[Value.int IntKind.u8 0, Value.int IntKind.u8 0, Value.int IntKind.u8 0, Value.int IntKind.u8 0, Value.int IntKind.u8 0, Value.int IntKind.u8 0, Value.int IntKind.u8 0, Value.int IntKind.u8 0, Value.int IntKind.u8 0, Value.int IntKind.u8 0, Value.int IntKind.u8 0, Value.int IntKind.u8 0, Value.int IntKind.u8 0, Value.int IntKind.u8 0, Value.int IntKind.u8 0, Value.int IntKind.u8 0, Value.int IntKind.u8 0, Value.int IntKind.u8 0, Value.int IntKind.u8 0, Value.int IntKind.u8 0, Value.int IntKind.u8 0, Value.int IntKind.u8 0, Value.int IntKind.u8 0, Value.int IntKind.u8 0, Value.int IntKind.u8 0, Value.int IntKind.u8 0, Value.int IntKind.u8 0, Value.int IntKind.u8 0, Value.int IntKind.u8 0, Value.int IntKind.u8 0, Value.int IntKind.u8 0, Value.int IntKind.u8 0, Value.int IntKind.u8 0, Value.int IntKind.u8 0, Value.int IntKind.u8 0, Value.int IntKind.u8 0, Value.int IntKind.u8 0, Value.int IntKind.u8 0, Value.int IntKind.u8 0, Value.int IntKind.u8 0, Value.int IntKind.u8 0, Value.int IntKind.u8 0, Value.int IntKind.u8 0, Value.int IntKind.u8 0, Value.int IntKind.u8 0, Value.int IntKind.u8 0, Value.int IntKind.u8 0, Value.int IntKind.u8 0, Value.int IntKind.u8 0, Value.int IntKind.u8 0, Value.int IntKind.u8 0, Value.int IntKind.u8 0, Value.int IntKind.u8 0, Value.int IntKind.u8 0, Value.int IntKind.u8 0, Value.int IntKind.u8 0, Value.int IntKind.u8 0, Value.int IntKind.u8 0, Value.int IntKind.u8 0, Value.int IntKind.u8 0, Value.int IntKind.u8 0, Value.int IntKind.u8 0, Value.int IntKind.u8 0, Value.int IntKind.u8 0] } : TI) := by kernel_rfl
theorem ty281 : tyOf Tryz.prog 281 = some ({ desc := TypeDesc.struct #[{ name := "s", type := 9, offset := 0, embedded := false, tag := "", pkgPath := "errors", byteOffset := 0 }], size := 1, bytes := 16, zero := Value.agg #[Value.string ⟨#[]⟩] } : TI) := by kernel_rfl
theorem ty282 : tyOf Tryz.prog 282 = some ({ desc := TypeDesc.struct #[{ name := "s", type := 9, offset := 0, embedded := false, tag := "", pkgPath := "errors", byteOffset := 0 }], size := 1, bytes := 16, zero := Value.agg #[Value.string ⟨#[]⟩] } : TI) := by kernel_rfl
theorem ty296 : tyOf Tryz.prog 296 = some ({ desc := TypeDesc.array 0 16, size := 0, bytes := 0, zero := Value.agg #[] } : TI) := by kernel_rfl
theorem ty304 : tyOf Tryz.prog 304 = some ({ desc := TypeDesc.struct #[{ name := "Size_", type := 12, offset := 0, embedded := false, tag := "", pkgPath := "", byteOffset := 0 }, { name := "PtrBytes", type := 12, offset := 1, embedded := false, tag := "", pkgPath := "", byteOffset := 8 }, { name := "Hash", type := 215, offset := 2, embedded := false, tag := "", pkgPath := "", byteOffset := 16 }, { name := "TFlag", type := 299, offset := 3, embedded := false, tag := "", pkgPath := "", byteOffset := 20 }, { name := "Align_", type := 5, offset := 4, embedded := false, tag := "", pkgPath := "", byteOffset := 21 }, { name := "FieldAlign_", type := 5, offset := 5, embedded := false, tag := "", pkgPath := "", byteOffset := 22 }, { name := "Kind_", type := 300, offset := 6, embedded := false, tag := "", pkgPath := "", byteOffset := 23 }, { name := "Equal", type := 301, offset := 7, embedded := false, tag := "", pkgPath := "", byteOffset := 24 }, { name := "GCData", type := 65, offset := 8, embedded := false, tag := "", pkgPath := "", byteOffset := 32 }, { name := "Str", type := 302, offset := 9, embedded := false, tag := "", pkgPath := "", byteOffset := 40 }, { name := "PtrToThis", type := 303, offset := 10, embedded := false, tag := "", pkgPath := "", byteOffset := 44 }], size := 11, bytes := 48, zero := Value.agg #[Value.int IntKind.u64 0, Value.int IntKind.u64 0, Value.int IntKind.u32 0, Value.int IntKind.u8 0, Value.int IntKind.u8 0, Value.int IntKind.u8 0, Value.int IntKind.u8 0, Value.nilFunc, Value.pointer none, Value.int IntKind.i32 0, Value.int IntKind.i32 0] } : TI) := by kernel_rfl
theorem ty306 : tyOf Tryz.prog 306 = some ({ desc := TypeDesc.struct #[{ name := "msg", type := 9, offset := 0, embedded := false, tag := "", pkgPath := "fmt", byteOffset := 0 }, { name := "err", type := 46, offset := 1, embedded := false, tag := "", pkgPath := "fmt", byteOffset := 16 }], size := 2, bytes := 32, zero := Value.agg #[Value.string ⟨#[]⟩, Value.nilIface] } : TI) := by kernel_rfl
theorem ty307 : tyOf Tryz.prog 307 = some ({ desc := TypeDesc.struct #[{ name := "msg", type := 9, offset := 0, embedded := false, tag := "", pkgPath := "fmt", byteOffset := 0 }, { name := "err", type := 46, offset := 1, embedded := false, tag := "", pkgPath := "fmt", byteOffset := 16 }], size := 2, bytes := 32, zero := Value.agg #[Value.string ⟨#[]⟩, Value.nilIface] } : TI) := by kernel_rfl
theorem ty308 : tyOf Tryz.prog 308 = some ({ desc := TypeDesc.slice 46, size := 1, bytes := 24, zero := Value.slice none 0 0 } : TI) := by kernel_rfl
theorem ty309 : tyOf Tryz.prog 309 = some ({ desc := TypeDesc.struct #[{ name := "msg", type := 9, offset := 0, embedded := false, tag := "", pkgPath := "fmt", byteOffset := 0 }, { name := "errs", type := 308, offset := 1, embedded := false, tag := "", pkgPath := "fmt", byteOffset := 16 }], size := 2, bytes := 40, zero := Value.agg #[Value.string ⟨#[]⟩, Value.slice none 0 0] } : TI) := by kernel_rfl
theorem ty310 : tyOf Tryz.prog 310 = some ({ desc := TypeDesc.struct #[{ name := "msg", type := 9, offset := 0, embedded := false, tag := "", pkgPath := "fmt", byteOffset := 0 }, { name := "errs", type := 308, offset := 1, embedded := false, tag := "", pkgPath := "fmt", byteOffset := 16 }], size := 2, bytes := 40, zero := Value.agg #[Value.string ⟨#[]⟩, Value.slice none 0 0] } : TI) := by kernel_rfl
def eqT : TypeId → Option Nat := fun t => if t = 206 then some 2 else none
theorem eqOk : ∀ t n, eqT t = some n → EqOk Tryz.prog t n := by
 intro t n h
 unfold eqT at h
 split at h
 ·rename_i e; subst e
  simp only [Option.some.injEq] at h; subst h
  exact eqOk_two (by kernel_rfl) (by kernel_rfl) Tryz.underlying3 Tryz.underlying206 (by decide) (by decide)
 ·simp at h
attribute [simp] awp_skip awp_seq awp_block awp_exit awp_ret awp_loop awp_rangeF awp_region awp_cond contS_normal contS_exit contS_ret inB_normal inB_exit inB_ret loopS_normal loopS_exit loopS_ret doneS_normal doneS_ret regS_some condS_bool bindS_some rrun_nil rrun_cons outD_some stepG_some rstep_eq callOut_some callOut_none mutCall_none movCall_none frzCall_none frzCall_some alt_none alt_some regrun_false regrun_true noLd_dt mkLd_dt frzLd_dt ldR_dt dtGet rdraw_eq rrunD_nil rrunD_cons contD_eq rstepD_eq outDr_some outC_zero outC_succ needs chk stR opR jk jkL meets appO appU upX shf nums sets Op.operands Call.operands noM_mk callV_fn aop_call take_map_all guardOk aop ev putD ofV ofV1 Value.oneCell' asNat abin aun pickAV scal frz nilS nilC TypeDesc.aggB AV.cells lenAV getAt loadCell loadCells res resL intern internL putCells ownR ownRL ownV ownA wholeB wholeP isAgg1 drops flat kill killL killN killNL clean keep refsL refs once place renL ren ctx G resOk resVars resVar pack viewEs bndOf appX appY ty2 ty3 ty4 ty5 ty9 ty12 ty21 ty22 ty27 ty28 ty32 ty33 ty34 ty43 ty44 ty46 ty59 ty60 ty62 ty63 ty64 ty75 ty79 ty80 ty82 ty83 ty84 ty88 ty141 ty145 ty148 ty149 ty189 ty204 ty205 ty206 ty214 ty215 ty216 ty218 ty228 ty241 ty255 ty256 ty257 ty261 ty262 ty277 ty278 ty281 ty282 ty296 ty304 ty306 ty307 ty308 ty309 ty310 eqT cellInts bld partOk nilAV bytesOf regS_ite allS_map allS_v allS_rep pickAV_bool nn1 tn1 nz1 nz1' lt1 sub slotsLe rngS_normal rngS_exit rngS_ret ctxV ctxH GH GM GV doneF_normal doneF_ret resVarsF resVarF mutCall movCall others setAt setCell ctxM resM doneM_normal doneM_ret
theorem mixed : Tryz.prog.follows .mixedOrders = true := by kernel_rfl
open Go Go.RowKit
def mWithin : List AV → Option AV
 | [.v (.int .i64 n), .v (.int .i64 lo), .v (.int .i64 hi)] => some (.v (.bool (decide (lo ≤ n) && decide (n ≤ hi))))
 | _ => none
set_option linter.unusedSimpArgs false
set_option maxHeartbeats 400000 in
theorem within_ok : FnOk Tryz.prog 153 mWithin := by
 intro args r h
 unfold mWithin at h
 split at h
 ·rename_i n lo hi
  simp only [Option.some.injEq] at h; subst h
  refine callOk_of_awp (ctx_ok eqOk .nil) mixed (live := [true, true, true, false, false, false, true]) (dt := []) Tryz.func153 rfl (by kernel_rfl) (by kernel_rfl) fun w0 => ?_
  by_cases h : lo ≤ n
  ·simp [Tryz.f153, List.range, List.range.loop, h]
  ·simp [Tryz.f153, List.range, List.range.loop, h]
 ·simp at h
theorem lens_ints {nl : Bool} {xs : List Int} : lens (.sl nl 1 (xs.map int)) ↔ xs.length ≤ 9223372036854775807 ∧ (nl = true → xs = []) := by
 simp [lens, lensL_map, int]
open Go Go.RowKit
set_option linter.unusedSimpArgs false
def frac (f : Int × Int) : AV := .agg [.v (.int .i64 f.1), .v (.int .i64 f.2)]
def fracs (nl : Bool) (xs : List (Int × Int)) : AV := .sl nl 2 (xs.map frac)
theorem frac_inj {a b : Int × Int} : frac a = frac b ↔ a = b := by
 obtain ⟨a, a'⟩ := a; obtain ⟨b, b'⟩ := b; simp [frac]
theorem map_frac_inj {a b : List (Int × Int)} : a.map frac = b.map frac ↔ a = b := by
 constructor
 ·intro h; exact (List.map_inj_right (fun x y => frac_inj.1)).1 h
 ·rintro rfl; rfl
open Go Go.RowKit
set_option linter.unusedSimpArgs false
def row (p : Bool × List Int) : AV := .sl p.1 1 (p.2.map int)
def intss (nl : Bool) (xss : List (Bool × List Int)) : AV := .sl nl 1 (xss.map row)
theorem row_inj {p q : Bool × List Int} : row p = row q ↔ p = q := by
 obtain ⟨a, b⟩ := p; obtain ⟨c, d⟩ := q
 simp [row, map_int_inj]
theorem map_row_inj {a b : List (Bool × List Int)} : a.map row = b.map row ↔ a = b :=
 ⟨fun h => (List.map_inj_right (fun x y => row_inj.1)).1 h, fun h => by rw [h]⟩
theorem lens_intss {nl : Bool} {xss : List (Bool × List Int)} : lens (.sl nl 1 (xss.map row)) ↔ (xss.length ≤ 9223372036854775807 ∧ (nl = true → xss = [])) ∧ ∀ x ∈ xss, x.2.length ≤ 9223372036854775807 ∧ (x.1 = true → x.2 = []) := by
 simp only [lens, lensL_map, row, List.length_map, List.map_eq_nil_iff, lens_ints]
def own (xss : List (Bool × List Int)) : List (Bool × List Int) := xss.map fun p => (false, p.2)
open Go Go.RowKit
theorem ownP : ownKnob Tryz.prog.godebug = none := by kernel_rfl
theorem laidOutP : laidOutB Tryz.prog = true := by kernel_rfl
open Go Go.RowKit
set_option linter.unusedSimpArgs false
structure Pure (caps : List AV) : Prop where
 res : ∀ toks, resL toks caps = caps
 refs : refsL caps = []
 ren : ∀ f, renL f caps = caps
noncomputable def only (a : List AV) (r : AV) : List AV → Option AV := mk (fun _ : Unit => True) (fun _ => a) (fun _ => r)
theorem only_at {a : List AV} {r : AV} : only a r a = some r := mk_eq (enc := fun _ : Unit => a) (x := ()) (fun _ _ _ => rfl) trivial
theorem only_ok {P : Program} {f : FuncId} {a : List AV} {r : AV} (h : CallOk P f a r) : FnOk P f (only a r) := mk_ok fun _ _ => h
theorem as_model {P : Program} {f : FuncId} {a : List AV} {r : AV} (h : CallOk P f a r) : ∃ m, FnOk P f m ∧ m a = some r := ⟨only a r, only_ok h, only_at⟩
def idxOf {α : Type} (p : α → Bool) (xs : List α) : Int := (xs.findIdx? p).elim (-1) fun i => (i : Int)
theorem idxOf_found {α : Type} {p : α → Bool} {xs : List α} {k : Nat} (hk : k < xs.length) (h : ∀ j (hj : j < xs.length), j < k → p xs[j] = false) (hp : p xs[k] = true) : idxOf p xs = k := by
 have : xs.findIdx? p = some k := List.findIdx?_eq_some_iff_getElem.2 ⟨hk, hp, fun j hj => by rw [h j (by omega) hj]; simp⟩
 simp [idxOf, this]
theorem idxOf_none {α : Type} {p : α → Bool} {xs : List α} (h : ∀ j (hj : j < xs.length), j < xs.length → p xs[j] = false) : idxOf p xs = -1 := by
 have : xs.findIdx? p = none := List.findIdx?_eq_none_iff.2 fun x hx => by
  obtain ⟨i, hi, rfl⟩ := List.getElem_of_mem hx
  exact h i hi hi
 simp [idxOf, this]
theorem idxOf_nonneg {α : Type} {p : α → Bool} {xs : List α} : decide (0 ≤ idxOf p xs) = xs.any p := by
 unfold idxOf
 cases h : xs.findIdx? p with
 | none =>
  have := List.findIdx?_eq_none_iff.1 h
  simp
  exact this
 | some i =>
  obtain ⟨hi, hp, _⟩ := List.findIdx?_eq_some_iff_getElem.1 h
  simp
  exact ⟨_, List.getElem_mem hi, hp⟩
theorem ge_zero {x : Int} : decide (x ≥ 0) = decide (0 ≤ x) := rfl
set_option maxHeartbeats 1000000 in
theorem indexInts {g : FuncId} {caps : List AV} (hc : Pure caps) (p : Int → Bool) (nl : Bool) (xs : List (Int)) (hg : ∀ x ∈ xs, CallOk Tryz.prog g (.v (.int .i64 x) :: caps) (.v (.bool (p x)))) :
  CallOk Tryz.prog 242 [ints nl xs, .fn g caps] (int (idxOf p xs)) := by
 have hG : FnsOk Tryz.prog [(g, mk (fun x => x ∈ xs) (fun x : Int => .v (.int .i64 x) :: caps) (fun x => .v (.bool (p x))))] := .cons (mk_ok fun x hx => hg x hx) .nil
 have hat : ∀ k (h : k < xs.length), mk (fun x => x ∈ xs) (fun x : Int => (.v (.int .i64 x) : AV) :: caps) (fun x => AV.v (.bool (p x))) (.v (.int .i64 xs[k]) :: caps) = some (.v (.bool (p xs[k]))) := fun k h =>
  mk_eq (enc := fun x : Int => (.v (.int .i64 x) : AV) :: caps) (x := xs[k]) (by intro x y h; simp at h; simp [h]) (List.getElem_mem h)
 generalize hm : mk (fun x => x ∈ xs) (fun x : Int => (.v (.int .i64 x) : AV) :: caps) (fun x => AV.v (.bool (p x))) = m at hG hat
 try simp only [ints, int] at hat
 refine callOk_awp (ctx_ok eqOk hG) mixed (live := [true, true, false, false, true, true, false, true, true, true, false, false, false, false, false, false, true]) (dt := []) Tryz.func242 rfl (by kernel_rfl) (by kernel_rfl) fun w0 hlens => ?_
 have hlen : xs.length ≤ 9223372036854775807 := (lens_ints.1 hlens.1).1
 simp [Tryz.f242, List.range, List.range.loop, ints, int, hc.res, hc.refs, hc.ren]
 refine awp_loop_of (ctx_ok eqOk hG) mixed (live := [true, true, false, false, true, true, false, true, true, true, false, false, false, false, false, false, true]) [true, true, false, false, false, false, false, true, true] (α := {k : Nat // k ≤ xs.length ∧ ∀ j (hj : j < xs.length), j < k → p xs[j] = false})
  (fun k => ⟨[ints nl xs, .fn g caps, .junk, .junk, .junk, .junk, .junk, int xs.length, int k.1] ++ List.replicate 10 .junk, []⟩) (fun k => xs.length - k.1) ⟨0, by omega, by omega⟩
  (by simp [sub, slotsLe, clean, keep, refsL, refs, once, place, renL, ren, List.replicate, int, bool, ints, int, hc.refs, hc.ren]) ?_
 rintro ⟨k, hk, hno⟩
 by_cases h : k < xs.length
 ·have hz := hat k h
  cases hp : p xs[k] with
  | true =>
   rw [hp] at hz
   simp [List.range, List.range.loop, ints, int, int, h, List.replicate, hc.res, hc.refs, hc.ren, hz, idxOf_found h hno hp]
  | false =>
   rw [hp] at hz
   simp [List.range, List.range.loop, ints, int, int, h, List.replicate, hc.res, hc.refs, hc.ren, hz]
   refine ⟨⟨k + 1, h, fun j hj hjk => ?_⟩, ?_, by simp; omega⟩
   ·by_cases e : j = k
    ·subst e; exact hp
    ·exact hno j hj (by omega)
   simp [sub, slotsLe, clean, keep, refsL, refs, once, place, renL, ren, List.replicate, int, bool, ints, int, hc.refs, hc.ren]
   exact wrapI (by omega) (by omega)
 ·have hk' : k = xs.length := by omega
  subst hk'
  simp [List.range, List.range.loop, ints, int, int, h, List.replicate, hc.res, hc.refs, hc.ren, idxOf_none hno]
set_option maxHeartbeats 1000000 in
theorem containsInts {g : FuncId} {caps : List AV} (hc : Pure caps) (p : Int → Bool) (nl : Bool) (xs : List (Int)) (hg : ∀ x ∈ xs, CallOk Tryz.prog g (.v (.int .i64 x) :: caps) (.v (.bool (p x)))) :
  CallOk Tryz.prog 341 [ints nl xs, .fn g caps] (bool (xs.any p)) := by
 have hG : FnsOk Tryz.prog [(242, only [.sl nl 1 (xs.map int), .fn g caps] (.v (.int .i64 (idxOf p xs))))] := .cons (only_ok (indexInts hc p nl xs hg)) .nil
 refine callOk_awp (ctx_ok eqOk hG) mixed (live := [true, true, false, false, true]) (dt := []) Tryz.func341 rfl (by kernel_rfl) (by kernel_rfl) fun w0 hlens => ?_
 simp [Tryz.f341, List.range, List.range.loop, ints, int, bool, hc.res, hc.refs, hc.ren, ge_zero, only_at, idxOf_nonneg]
set_option maxHeartbeats 1000000 in
theorem indexIntss {g : FuncId} {caps : List AV} (hc : Pure caps) (p : Bool × List Int → Bool) (nl : Bool) (xs : List (Bool × List Int)) (hg : ∀ x ∈ xs, CallOk Tryz.prog g (row x :: caps) (.v (.bool (p x)))) :
  CallOk Tryz.prog 175 [intss nl xs, .fn g caps] (int (idxOf p xs)) := by
 have hG : FnsOk Tryz.prog [(g, mk (fun x => x ∈ xs) (fun x : Bool × List Int => row x :: caps) (fun x => .v (.bool (p x))))] := .cons (mk_ok fun x hx => hg x hx) .nil
 have hat : ∀ k (h : k < xs.length), mk (fun x => x ∈ xs) (fun x : Bool × List Int => (row x : AV) :: caps) (fun x => AV.v (.bool (p x))) (row xs[k] :: caps) = some (.v (.bool (p xs[k]))) := fun k h =>
  mk_eq (enc := fun x : Bool × List Int => (row x : AV) :: caps) (x := xs[k]) (by intro x y h; simp [row_inj] at h; simp [h]) (List.getElem_mem h)
 generalize hm : mk (fun x => x ∈ xs) (fun x : Bool × List Int => (row x : AV) :: caps) (fun x => AV.v (.bool (p x))) = m at hG hat
 try simp only [intss, row] at hat
 refine callOk_awp (ctx_ok eqOk hG) mixed (live := [true, true, false, false, true, true, false, true, true, true, false, false, false, false, false, false, true]) (dt := []) Tryz.func175 rfl (by kernel_rfl) (by kernel_rfl) fun w0 hlens => ?_
 have hlen : xs.length ≤ 9223372036854775807 := (lens_intss.1 hlens.1).1.1
 simp [Tryz.f175, List.range, List.range.loop, intss, row, hc.res, hc.refs, hc.ren]
 refine awp_loop_of (ctx_ok eqOk hG) mixed (live := [true, true, false, false, true, true, false, true, true, true, false, false, false, false, false, false, true]) [true, true, false, false, false, false, false, true, true] (α := {k : Nat // k ≤ xs.length ∧ ∀ j (hj : j < xs.length), j < k → p xs[j] = false})
  (fun k => ⟨[intss nl xs, .fn g caps, .junk, .junk, .junk, .junk, .junk, int xs.length, int k.1] ++ List.replicate 10 .junk, []⟩) (fun k => xs.length - k.1) ⟨0, by omega, by omega⟩
  (by simp [sub, slotsLe, clean, keep, refsL, refs, once, place, renL, ren, List.replicate, int, bool, intss, row, hc.refs, hc.ren]) ?_
 rintro ⟨k, hk, hno⟩
 by_cases h : k < xs.length
 ·have hz := hat k h
  cases hp : p xs[k] with
  | true =>
   rw [hp] at hz
   simp [List.range, List.range.loop, intss, row, int, h, List.replicate, hc.res, hc.refs, hc.ren, hz, idxOf_found h hno hp]
  | false =>
   rw [hp] at hz
   simp [List.range, List.range.loop, intss, row, int, h, List.replicate, hc.res, hc.refs, hc.ren, hz]
   refine ⟨⟨k + 1, h, fun j hj hjk => ?_⟩, ?_, by simp; omega⟩
   ·by_cases e : j = k
    ·subst e; exact hp
    ·exact hno j hj (by omega)
   simp [sub, slotsLe, clean, keep, refsL, refs, once, place, renL, ren, List.replicate, int, bool, intss, row, hc.refs, hc.ren]
   exact wrapI (by omega) (by omega)
 ·have hk' : k = xs.length := by omega
  subst hk'
  simp [List.range, List.range.loop, intss, row, int, h, List.replicate, hc.res, hc.refs, hc.ren, idxOf_none hno]
set_option maxHeartbeats 1000000 in
theorem containsIntss {g : FuncId} {caps : List AV} (hc : Pure caps) (p : Bool × List Int → Bool) (nl : Bool) (xs : List (Bool × List Int)) (hg : ∀ x ∈ xs, CallOk Tryz.prog g (row x :: caps) (.v (.bool (p x)))) :
  CallOk Tryz.prog 260 [intss nl xs, .fn g caps] (bool (xs.any p)) := by
 have hG : FnsOk Tryz.prog [(175, only [.sl nl 1 (xs.map row), .fn g caps] (.v (.int .i64 (idxOf p xs))))] := .cons (only_ok (indexIntss hc p nl xs hg)) .nil
 refine callOk_awp (ctx_ok eqOk hG) mixed (live := [true, true, false, false, true]) (dt := []) Tryz.func260 rfl (by kernel_rfl) (by kernel_rfl) fun w0 hlens => ?_
 simp [Tryz.f260, List.range, List.range.loop, intss, row, bool, hc.res, hc.refs, hc.ren, ge_zero, only_at, idxOf_nonneg]
end Go.Proofs.YtompijgfpeibnaaGreatDoor.Ax
