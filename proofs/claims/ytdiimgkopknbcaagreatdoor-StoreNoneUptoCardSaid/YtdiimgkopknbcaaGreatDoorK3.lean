/- What the types of the translation are, and which functions may be called: closed facts, by program. -/
import Derived.Test.YtdiimgkopknbcaaGreatDoorK2
import Derived.Test.YtdiimgkopknbcaaGreatDoorProg
namespace Go.Proofs.YtdiimgkopknbcaaGreatDoor
open Go E
set_option maxRecDepth 100000
instance ty1 : TyIs Tryz.prog 1 (Go.TypeDesc.func #[] #[] false) 1 8 .nilFunc := .of (by kernel_rfl) Tryz.underlying1 rfl
instance ty2 : TyIs Tryz.prog 2 (Go.TypeDesc.int Go.IntKind.i64) 1 8 (.int .i64 0) := .of (by kernel_rfl) Tryz.underlying2 rfl
instance ty3 : TyIs Tryz.prog 3 (Go.TypeDesc.int Go.IntKind.i64) 1 8 (.int .i64 0) := .of (by kernel_rfl) Tryz.underlying3 rfl
instance ty4 : TyIs Tryz.prog 4 Go.TypeDesc.bool 1 1 (.bool false) := .of (by kernel_rfl) Tryz.underlying4 rfl
instance ty5 : TyIs Tryz.prog 5 (Go.TypeDesc.int Go.IntKind.u8) 1 1 (.int .u8 0) := .of (by kernel_rfl) Tryz.underlying5 rfl
instance ty6 : TyIs Tryz.prog 6 (Go.TypeDesc.int Go.IntKind.u8) 1 1 (.int .u8 0) := .of (by kernel_rfl) Tryz.underlying6 rfl
instance ty7 : TyIs Tryz.prog 7 (Go.TypeDesc.struct #[{ name := "x", type := 2, offset := 0, embedded := false, tag := "", pkgPath := "runtime", byteOffset := 0 }, { name := "y", type := 3, offset := 1, embedded := false, tag := "", pkgPath := "runtime", byteOffset := 8 }, { name := "signed", type := 4, offset := 2, embedded := false, tag := "", pkgPath := "runtime", byteOffset := 16 }, { name := "code", type := 6, offset := 3, embedded := false, tag := "", pkgPath := "runtime", byteOffset := 17 }]) 4 24 (.agg #[(.int .i64 0), (.int .i64 0), (.bool false), (.int .u8 0)]) := .of (by kernel_rfl) Tryz.underlying7 rfl
instance ty8 : TyIs Tryz.prog 8 (Go.TypeDesc.struct #[{ name := "x", type := 2, offset := 0, embedded := false, tag := "", pkgPath := "runtime", byteOffset := 0 }, { name := "y", type := 3, offset := 1, embedded := false, tag := "", pkgPath := "runtime", byteOffset := 8 }, { name := "signed", type := 4, offset := 2, embedded := false, tag := "", pkgPath := "runtime", byteOffset := 16 }, { name := "code", type := 6, offset := 3, embedded := false, tag := "", pkgPath := "runtime", byteOffset := 17 }]) 4 24 (.agg #[(.int .i64 0), (.int .i64 0), (.bool false), (.int .u8 0)]) := .of (by kernel_rfl) Tryz.underlying8 rfl
instance ty9 : TyIs Tryz.prog 9 Go.TypeDesc.string 1 16 (.string ⟨#[]⟩) := .of (by kernel_rfl) Tryz.underlying9 rfl
instance ty10 : TyIs Tryz.prog 10 Go.TypeDesc.string 1 16 (.string ⟨#[]⟩) := .of (by kernel_rfl) Tryz.underlying10 rfl
instance ty11 : TyIs Tryz.prog 11 Go.TypeDesc.string 1 16 (.string ⟨#[]⟩) := .of (by kernel_rfl) Tryz.underlying11 rfl
instance ty12 : TyIs Tryz.prog 12 (Go.TypeDesc.int Go.IntKind.u64) 1 8 (.int .u64 0) := .of (by kernel_rfl) Tryz.underlying12 rfl
instance ty13 : TyIs Tryz.prog 13 (Go.TypeDesc.struct #[{ name := "msg", type := 9, offset := 0, embedded := false, tag := "", pkgPath := "runtime", byteOffset := 0 }, { name := "addr", type := 12, offset := 1, embedded := false, tag := "", pkgPath := "runtime", byteOffset := 16 }]) 2 24 (.agg #[(.string ⟨#[]⟩), (.int .u64 0)]) := .of (by kernel_rfl) Tryz.underlying13 rfl
instance ty14 : TyIs Tryz.prog 14 (Go.TypeDesc.struct #[{ name := "msg", type := 9, offset := 0, embedded := false, tag := "", pkgPath := "runtime", byteOffset := 0 }, { name := "addr", type := 12, offset := 1, embedded := false, tag := "", pkgPath := "runtime", byteOffset := 16 }]) 2 24 (.agg #[(.string ⟨#[]⟩), (.int .u64 0)]) := .of (by kernel_rfl) Tryz.underlying14 rfl
instance ty15 : TyIs Tryz.prog 15 (Go.TypeDesc.pointer 404) 1 8 (.pointer none) := .of (by kernel_rfl) Tryz.underlying15 rfl
instance ty16 : TyIs Tryz.prog 16 (Go.TypeDesc.pointer 407) 1 8 (.pointer none) := .of (by kernel_rfl) Tryz.underlying16 rfl
instance ty17 : TyIs Tryz.prog 17 (Go.TypeDesc.pointer 414) 1 8 (.pointer none) := .of (by kernel_rfl) Tryz.underlying17 rfl
instance ty18 : TyIs Tryz.prog 18 (Go.TypeDesc.struct #[{ name := "typ", type := 17, offset := 0, embedded := false, tag := "", pkgPath := "internal/runtime/maps", byteOffset := 0 }]) 1 8 (.agg #[(.pointer none)]) := .of (by kernel_rfl) Tryz.underlying18 rfl
instance ty19 : TyIs Tryz.prog 19 (Go.TypeDesc.struct #[{ name := "typ", type := 17, offset := 0, embedded := false, tag := "", pkgPath := "internal/runtime/maps", byteOffset := 0 }]) 1 8 (.agg #[(.pointer none)]) := .of (by kernel_rfl) Tryz.underlying19 rfl
instance ty20 : TyIs Tryz.prog 20 (Go.TypeDesc.interface #[]) 1 16 .nilIface := .of (by kernel_rfl) Tryz.underlying20 rfl
instance ty21 : TyIs Tryz.prog 21 (Go.TypeDesc.int Go.IntKind.i32) 1 4 (.int .i32 0) := .of (by kernel_rfl) Tryz.underlying21 rfl
instance ty22 : TyIs Tryz.prog 22 (Go.TypeDesc.slice 9) 1 24 (.slice none 0 0) := .of (by kernel_rfl) Tryz.underlying22 rfl
instance ty23 : TyIs Tryz.prog 23 (Go.TypeDesc.slice 25) 1 24 (.slice none 0 0) := .of (by kernel_rfl) Tryz.underlying23 rfl
instance ty24 : TyIs Tryz.prog 24 (Go.TypeDesc.struct #[{ name := "Kind", type := 3, offset := 0, embedded := false, tag := "", pkgPath := "", byteOffset := 0 }, { name := "Names", type := 22, offset := 1, embedded := false, tag := "", pkgPath := "", byteOffset := 8 }, { name := "L", type := 23, offset := 2, embedded := false, tag := "", pkgPath := "", byteOffset := 32 }, { name := "R", type := 3, offset := 3, embedded := false, tag := "", pkgPath := "", byteOffset := 56 }]) 4 64 (.agg #[(.int .i64 0), (.slice none 0 0), (.slice none 0 0), (.int .i64 0)]) := .of (by kernel_rfl) Tryz.underlying24 rfl
instance ty25 : TyIs Tryz.prog 25 (Go.TypeDesc.struct #[{ name := "Kind", type := 3, offset := 0, embedded := false, tag := "", pkgPath := "", byteOffset := 0 }, { name := "Names", type := 22, offset := 1, embedded := false, tag := "", pkgPath := "", byteOffset := 8 }, { name := "L", type := 23, offset := 2, embedded := false, tag := "", pkgPath := "", byteOffset := 32 }, { name := "R", type := 3, offset := 3, embedded := false, tag := "", pkgPath := "", byteOffset := 56 }]) 4 64 (.agg #[(.int .i64 0), (.slice none 0 0), (.slice none 0 0), (.int .i64 0)]) := .of (by kernel_rfl) Tryz.underlying25 rfl
instance ty26 : TyIs Tryz.prog 26 (Go.TypeDesc.slice 3) 1 24 (.slice none 0 0) := .of (by kernel_rfl) Tryz.underlying26 rfl
instance ty27 : TyIs Tryz.prog 27 (Go.TypeDesc.slice 29) 1 24 (.slice none 0 0) := .of (by kernel_rfl) Tryz.underlying27 rfl
instance ty28 : TyIs Tryz.prog 28 (Go.TypeDesc.struct #[{ name := "N", type := 3, offset := 0, embedded := false, tag := "", pkgPath := "", byteOffset := 0 }, { name := "S", type := 26, offset := 1, embedded := false, tag := "", pkgPath := "", byteOffset := 8 }, { name := "L", type := 27, offset := 2, embedded := false, tag := "", pkgPath := "", byteOffset := 32 }]) 3 56 (.agg #[(.int .i64 0), (.slice none 0 0), (.slice none 0 0)]) := .of (by kernel_rfl) Tryz.underlying28 rfl
instance ty29 : TyIs Tryz.prog 29 (Go.TypeDesc.struct #[{ name := "N", type := 3, offset := 0, embedded := false, tag := "", pkgPath := "", byteOffset := 0 }, { name := "S", type := 26, offset := 1, embedded := false, tag := "", pkgPath := "", byteOffset := 8 }, { name := "L", type := 27, offset := 2, embedded := false, tag := "", pkgPath := "", byteOffset := 32 }]) 3 56 (.agg #[(.int .i64 0), (.slice none 0 0), (.slice none 0 0)]) := .of (by kernel_rfl) Tryz.underlying29 rfl
instance ty30 : TyIs Tryz.prog 30 (Go.TypeDesc.func #[29] #[4] false) 1 8 .nilFunc := .of (by kernel_rfl) Tryz.underlying30 rfl
instance ty31 : TyIs Tryz.prog 31 (Go.TypeDesc.func #[] #[4] false) 1 8 .nilFunc := .of (by kernel_rfl) Tryz.underlying31 rfl
instance ty32 : TyIs Tryz.prog 32 (Go.TypeDesc.pointer 83) 1 8 (.pointer none) := .of (by kernel_rfl) Tryz.underlying32 rfl
instance ty33 : TyIs Tryz.prog 33 (Go.TypeDesc.int Go.IntKind.i64) 1 8 (.int .i64 0) := .of (by kernel_rfl) Tryz.underlying33 rfl
instance ty35 : TyIs Tryz.prog 35 (Go.TypeDesc.func #[25, 3] #[29, 33] false) 1 8 .nilFunc := .of (by kernel_rfl) Tryz.underlying35 rfl
instance ty37 : TyIs Tryz.prog 37 (Go.TypeDesc.func #[26] #[3, 3, 33] true) 1 8 .nilFunc := .of (by kernel_rfl) Tryz.underlying37 rfl
instance ty39 : TyIs Tryz.prog 39 (Go.TypeDesc.func #[25, 27] #[3, 33] true) 1 8 .nilFunc := .of (by kernel_rfl) Tryz.underlying39 rfl
instance ty40 : TyIs Tryz.prog 40 (Go.TypeDesc.func #[3, 3] #[3, 33] false) 1 8 .nilFunc := .of (by kernel_rfl) Tryz.underlying40 rfl
instance ty41 : TyIs Tryz.prog 41 (Go.TypeDesc.pointer 97) 1 8 (.pointer none) := .of (by kernel_rfl) Tryz.underlying41 rfl
instance ty42 : TyIs Tryz.prog 42 (Go.TypeDesc.func #[] #[41] false) 1 8 .nilFunc := .of (by kernel_rfl) Tryz.underlying42 rfl
instance ty43 : TyIs Tryz.prog 43 (Go.TypeDesc.int Go.IntKind.i64) 1 8 (.int .i64 0) := .of (by kernel_rfl) Tryz.underlying43 rfl
instance ty45 : TyIs Tryz.prog 45 (Go.TypeDesc.func #[55, 98] #[3, 43, 33] true) 1 8 .nilFunc := .of (by kernel_rfl) Tryz.underlying45 rfl
instance ty46 : TyIs Tryz.prog 46 (Go.TypeDesc.slice 113) 1 24 (.slice none 0 0) := .of (by kernel_rfl) Tryz.underlying46 rfl
instance ty47 : TyIs Tryz.prog 47 (Go.TypeDesc.slice 108) 1 24 (.slice none 0 0) := .of (by kernel_rfl) Tryz.underlying47 rfl
instance ty48 : TyIs Tryz.prog 48 (Go.TypeDesc.slice 106) 1 24 (.slice none 0 0) := .of (by kernel_rfl) Tryz.underlying48 rfl
instance ty49 : TyIs Tryz.prog 49 (Go.TypeDesc.slice 118) 1 24 (.slice none 0 0) := .of (by kernel_rfl) Tryz.underlying49 rfl
instance ty50 : TyIs Tryz.prog 50 (Go.TypeDesc.slice 120) 1 24 (.slice none 0 0) := .of (by kernel_rfl) Tryz.underlying50 rfl
instance ty51 : TyIs Tryz.prog 51 (Go.TypeDesc.slice 200) 1 24 (.slice none 0 0) := .of (by kernel_rfl) Tryz.underlying51 rfl
instance ty52 : TyIs Tryz.prog 52 (Go.TypeDesc.slice 122) 1 24 (.slice none 0 0) := .of (by kernel_rfl) Tryz.underlying52 rfl
instance ty53 : TyIs Tryz.prog 53 (Go.TypeDesc.slice 202) 1 24 (.slice none 0 0) := .of (by kernel_rfl) Tryz.underlying53 rfl
instance ty54 : TyIs Tryz.prog 54 (Go.TypeDesc.struct #[{ name := "Types", type := 46, offset := 0, embedded := false, tag := "", pkgPath := "", byteOffset := 0 }, { name := "Imports", type := 47, offset := 1, embedded := false, tag := "", pkgPath := "", byteOffset := 24 }, { name := "Funcs", type := 26, offset := 2, embedded := false, tag := "", pkgPath := "", byteOffset := 48 }, { name := "Tables", type := 48, offset := 3, embedded := false, tag := "", pkgPath := "", byteOffset := 72 }, { name := "Mems", type := 48, offset := 4, embedded := false, tag := "", pkgPath := "", byteOffset := 96 }, { name := "Globals", type := 49, offset := 5, embedded := false, tag := "", pkgPath := "", byteOffset := 120 }, { name := "Exports", type := 50, offset := 6, embedded := false, tag := "", pkgPath := "", byteOffset := 144 }, { name := "Start", type := 3, offset := 7, embedded := false, tag := "", pkgPath := "", byteOffset := 168 }, { name := "Elems", type := 51, offset := 8, embedded := false, tag := "", pkgPath := "", byteOffset := 176 }, { name := "Codes", type := 52, offset := 9, embedded := false, tag := "", pkgPath := "", byteOffset := 200 }, { name := "Datas", type := 53, offset := 10, embedded := false, tag := "", pkgPath := "", byteOffset := 224 }]) 11 248 (.agg #[(.slice none 0 0), (.slice none 0 0), (.slice none 0 0), (.slice none 0 0), (.slice none 0 0), (.slice none 0 0), (.slice none 0 0), (.int .i64 0), (.slice none 0 0), (.slice none 0 0), (.slice none 0 0)]) := .of (by kernel_rfl) Tryz.underlying54 rfl
instance ty55 : TyIs Tryz.prog 55 (Go.TypeDesc.struct #[{ name := "Types", type := 46, offset := 0, embedded := false, tag := "", pkgPath := "", byteOffset := 0 }, { name := "Imports", type := 47, offset := 1, embedded := false, tag := "", pkgPath := "", byteOffset := 24 }, { name := "Funcs", type := 26, offset := 2, embedded := false, tag := "", pkgPath := "", byteOffset := 48 }, { name := "Tables", type := 48, offset := 3, embedded := false, tag := "", pkgPath := "", byteOffset := 72 }, { name := "Mems", type := 48, offset := 4, embedded := false, tag := "", pkgPath := "", byteOffset := 96 }, { name := "Globals", type := 49, offset := 5, embedded := false, tag := "", pkgPath := "", byteOffset := 120 }, { name := "Exports", type := 50, offset := 6, embedded := false, tag := "", pkgPath := "", byteOffset := 144 }, { name := "Start", type := 3, offset := 7, embedded := false, tag := "", pkgPath := "", byteOffset := 168 }, { name := "Elems", type := 51, offset := 8, embedded := false, tag := "", pkgPath := "", byteOffset := 176 }, { name := "Codes", type := 52, offset := 9, embedded := false, tag := "", pkgPath := "", byteOffset := 200 }, { name := "Datas", type := 53, offset := 10, embedded := false, tag := "", pkgPath := "", byteOffset := 224 }]) 11 248 (.agg #[(.slice none 0 0), (.slice none 0 0), (.slice none 0 0), (.slice none 0 0), (.slice none 0 0), (.slice none 0 0), (.slice none 0 0), (.int .i64 0), (.slice none 0 0), (.slice none 0 0), (.slice none 0 0)]) := .of (by kernel_rfl) Tryz.underlying55 rfl
instance ty56 : TyIs Tryz.prog 56 (Go.TypeDesc.func #[3, 4, 4] #[55] false) 1 8 .nilFunc := .of (by kernel_rfl) Tryz.underlying56 rfl
instance ty58 : TyIs Tryz.prog 58 (Go.TypeDesc.func #[41, 60, 60, 3, 3] #[32, 43] false) 1 8 .nilFunc := .of (by kernel_rfl) Tryz.underlying58 rfl
instance ty59 : TyIs Tryz.prog 59 (Go.TypeDesc.struct #[{ name := "Kind", type := 3, offset := 0, embedded := false, tag := "", pkgPath := "", byteOffset := 0 }, { name := "Addr", type := 3, offset := 1, embedded := false, tag := "", pkgPath := "", byteOffset := 8 }]) 2 16 (.agg #[(.int .i64 0), (.int .i64 0)]) := .of (by kernel_rfl) Tryz.underlying59 rfl
instance ty60 : TyIs Tryz.prog 60 (Go.TypeDesc.struct #[{ name := "Kind", type := 3, offset := 0, embedded := false, tag := "", pkgPath := "", byteOffset := 0 }, { name := "Addr", type := 3, offset := 1, embedded := false, tag := "", pkgPath := "", byteOffset := 8 }]) 2 16 (.agg #[(.int .i64 0), (.int .i64 0)]) := .of (by kernel_rfl) Tryz.underlying60 rfl
instance ty61 : TyIs Tryz.prog 61 (Go.TypeDesc.func #[70, 3, 26] #[32, 43] true) 1 8 .nilFunc := .of (by kernel_rfl) Tryz.underlying61 rfl
instance ty62 : TyIs Tryz.prog 62 (Go.TypeDesc.func #[] #[32] false) 1 8 .nilFunc := .of (by kernel_rfl) Tryz.underlying62 rfl
instance ty63 : TyIs Tryz.prog 63 (Go.TypeDesc.func #[29, 29] #[4] false) 1 8 .nilFunc := .of (by kernel_rfl) Tryz.underlying63 rfl
instance ty64 : TyIs Tryz.prog 64 (Go.TypeDesc.func #[25, 29, 3] #[33] false) 1 8 .nilFunc := .of (by kernel_rfl) Tryz.underlying64 rfl
instance ty65 : TyIs Tryz.prog 65 (Go.TypeDesc.func #[] #[3] false) 1 8 .nilFunc := .of (by kernel_rfl) Tryz.underlying65 rfl
instance ty66 : TyIs Tryz.prog 66 (Go.TypeDesc.slice 78) 1 24 (.slice none 0 0) := .of (by kernel_rfl) Tryz.underlying66 rfl
instance ty67 : TyIs Tryz.prog 67 (Go.TypeDesc.func #[] #[66] false) 1 8 .nilFunc := .of (by kernel_rfl) Tryz.underlying67 rfl
instance ty68 : TyIs Tryz.prog 68 (Go.TypeDesc.func #[25, 29, 3, 3] #[4] false) 1 8 .nilFunc := .of (by kernel_rfl) Tryz.underlying68 rfl
instance ty69 : TyIs Tryz.prog 69 (Go.TypeDesc.func #[29, 3] #[3] false) 1 8 .nilFunc := .of (by kernel_rfl) Tryz.underlying69 rfl
instance ty70 : TyIs Tryz.prog 70 (Go.TypeDesc.pointer 205) 1 8 (.pointer none) := .of (by kernel_rfl) Tryz.underlying70 rfl
instance ty71 : TyIs Tryz.prog 71 (Go.TypeDesc.pointer 208) 1 8 (.pointer none) := .of (by kernel_rfl) Tryz.underlying71 rfl
instance ty73 : TyIs Tryz.prog 73 (Go.TypeDesc.func #[132] #[70, 71] false) 1 8 .nilFunc := .of (by kernel_rfl) Tryz.underlying73 rfl
instance ty75 : TyIs Tryz.prog 75 (Go.TypeDesc.func #[3, 3] #[9, 33] false) 1 8 .nilFunc := .of (by kernel_rfl) Tryz.underlying75 rfl
instance ty76 : TyIs Tryz.prog 76 (Go.TypeDesc.func #[66, 66] #[4] false) 1 8 .nilFunc := .of (by kernel_rfl) Tryz.underlying76 rfl
instance ty77 : TyIs Tryz.prog 77 (Go.TypeDesc.struct #[{ name := "Align", type := 3, offset := 0, embedded := false, tag := "", pkgPath := "", byteOffset := 0 }, { name := "Size", type := 3, offset := 1, embedded := false, tag := "", pkgPath := "", byteOffset := 8 }, { name := "At", type := 3, offset := 2, embedded := false, tag := "", pkgPath := "", byteOffset := 16 }]) 3 24 (.agg #[(.int .i64 0), (.int .i64 0), (.int .i64 0)]) := .of (by kernel_rfl) Tryz.underlying77 rfl
instance ty78 : TyIs Tryz.prog 78 (Go.TypeDesc.struct #[{ name := "Align", type := 3, offset := 0, embedded := false, tag := "", pkgPath := "", byteOffset := 0 }, { name := "Size", type := 3, offset := 1, embedded := false, tag := "", pkgPath := "", byteOffset := 8 }, { name := "At", type := 3, offset := 2, embedded := false, tag := "", pkgPath := "", byteOffset := 16 }]) 3 24 (.agg #[(.int .i64 0), (.int .i64 0), (.int .i64 0)]) := .of (by kernel_rfl) Tryz.underlying78 rfl
instance ty79 : TyIs Tryz.prog 79 (Go.TypeDesc.func #[25] #[43] false) 1 8 .nilFunc := .of (by kernel_rfl) Tryz.underlying79 rfl
instance ty80 : TyIs Tryz.prog 80 (Go.TypeDesc.func #[3, 3, 3] #[33] false) 1 8 .nilFunc := .of (by kernel_rfl) Tryz.underlying80 rfl
instance ty81 : TyIs Tryz.prog 81 (Go.TypeDesc.func #[25] #[3] false) 1 8 .nilFunc := .of (by kernel_rfl) Tryz.underlying81 rfl
instance ty82 : TyIs Tryz.prog 82 (Go.TypeDesc.struct #[{ name := "m", type := 70, offset := 0, embedded := false, tag := "", pkgPath := "scarf/store", byteOffset := 0 }, { name := "enc", type := 3, offset := 1, embedded := false, tag := "", pkgPath := "scarf/store", byteOffset := 8 }, { name := "script", type := 26, offset := 2, embedded := false, tag := "", pkgPath := "scarf/store", byteOffset := 16 }, { name := "wants", type := 66, offset := 3, embedded := false, tag := "", pkgPath := "scarf/store", byteOffset := 40 }, { name := "s", type := 41, offset := 4, embedded := false, tag := "", pkgPath := "scarf/store", byteOffset := 64 }, { name := "give", type := 60, offset := 5, embedded := false, tag := "", pkgPath := "scarf/store", byteOffset := 72 }, { name := "fuel", type := 3, offset := 7, embedded := false, tag := "", pkgPath := "scarf/store", byteOffset := 88 }, { name := "left", type := 3, offset := 8, embedded := false, tag := "", pkgPath := "scarf/store", byteOffset := 96 }]) 9 104 (.agg #[(.pointer none), (.int .i64 0), (.slice none 0 0), (.slice none 0 0), (.pointer none), (.int .i64 0), (.int .i64 0), (.int .i64 0), (.int .i64 0)]) := .of (by kernel_rfl) Tryz.underlying82 rfl
instance ty83 : TyIs Tryz.prog 83 (Go.TypeDesc.struct #[{ name := "m", type := 70, offset := 0, embedded := false, tag := "", pkgPath := "scarf/store", byteOffset := 0 }, { name := "enc", type := 3, offset := 1, embedded := false, tag := "", pkgPath := "scarf/store", byteOffset := 8 }, { name := "script", type := 26, offset := 2, embedded := false, tag := "", pkgPath := "scarf/store", byteOffset := 16 }, { name := "wants", type := 66, offset := 3, embedded := false, tag := "", pkgPath := "scarf/store", byteOffset := 40 }, { name := "s", type := 41, offset := 4, embedded := false, tag := "", pkgPath := "scarf/store", byteOffset := 64 }, { name := "give", type := 60, offset := 5, embedded := false, tag := "", pkgPath := "scarf/store", byteOffset := 72 }, { name := "fuel", type := 3, offset := 7, embedded := false, tag := "", pkgPath := "scarf/store", byteOffset := 88 }, { name := "left", type := 3, offset := 8, embedded := false, tag := "", pkgPath := "scarf/store", byteOffset := 96 }]) 9 104 (.agg #[(.pointer none), (.int .i64 0), (.slice none 0 0), (.slice none 0 0), (.pointer none), (.int .i64 0), (.int .i64 0), (.int .i64 0), (.int .i64 0)]) := .of (by kernel_rfl) Tryz.underlying83 rfl
instance ty84 : TyIs Tryz.prog 84 (Go.TypeDesc.func #[3, 26] #[3] true) 1 8 .nilFunc := .of (by kernel_rfl) Tryz.underlying84 rfl
instance ty86 : TyIs Tryz.prog 86 (Go.TypeDesc.func #[3, 26] #[9, 4] true) 1 8 .nilFunc := .of (by kernel_rfl) Tryz.underlying86 rfl
instance ty88 : TyIs Tryz.prog 88 (Go.TypeDesc.func #[3, 26] #[3, 3] true) 1 8 .nilFunc := .of (by kernel_rfl) Tryz.underlying88 rfl
instance ty89 : TyIs Tryz.prog 89 (Go.TypeDesc.func #[3, 9] #[33] false) 1 8 .nilFunc := .of (by kernel_rfl) Tryz.underlying89 rfl
instance ty90 : TyIs Tryz.prog 90 (Go.TypeDesc.func #[25, 29] #[43] false) 1 8 .nilFunc := .of (by kernel_rfl) Tryz.underlying90 rfl
instance ty91 : TyIs Tryz.prog 91 (Go.TypeDesc.slice 102) 1 24 (.slice none 0 0) := .of (by kernel_rfl) Tryz.underlying91 rfl
instance ty92 : TyIs Tryz.prog 92 (Go.TypeDesc.slice 190) 1 24 (.slice none 0 0) := .of (by kernel_rfl) Tryz.underlying92 rfl
instance ty93 : TyIs Tryz.prog 93 (Go.TypeDesc.slice 191) 1 24 (.slice none 0 0) := .of (by kernel_rfl) Tryz.underlying93 rfl
instance ty94 : TyIs Tryz.prog 94 (Go.TypeDesc.slice 70) 1 24 (.slice none 0 0) := .of (by kernel_rfl) Tryz.underlying94 rfl
instance ty95 : TyIs Tryz.prog 95 (Go.TypeDesc.slice 195) 1 24 (.slice none 0 0) := .of (by kernel_rfl) Tryz.underlying95 rfl
instance ty96 : TyIs Tryz.prog 96 (Go.TypeDesc.struct #[{ name := "insts", type := 91, offset := 0, embedded := false, tag := "", pkgPath := "scarf/exec", byteOffset := 0 }, { name := "funcs", type := 92, offset := 1, embedded := false, tag := "", pkgPath := "scarf/exec", byteOffset := 24 }, { name := "tables", type := 93, offset := 2, embedded := false, tag := "", pkgPath := "scarf/exec", byteOffset := 48 }, { name := "mems", type := 94, offset := 3, embedded := false, tag := "", pkgPath := "scarf/exec", byteOffset := 72 }, { name := "values", type := 95, offset := 4, embedded := false, tag := "", pkgPath := "scarf/exec", byteOffset := 96 }]) 5 120 (.agg #[(.slice none 0 0), (.slice none 0 0), (.slice none 0 0), (.slice none 0 0), (.slice none 0 0)]) := .of (by kernel_rfl) Tryz.underlying96 rfl
instance ty97 : TyIs Tryz.prog 97 (Go.TypeDesc.struct #[{ name := "insts", type := 91, offset := 0, embedded := false, tag := "", pkgPath := "scarf/exec", byteOffset := 0 }, { name := "funcs", type := 92, offset := 1, embedded := false, tag := "", pkgPath := "scarf/exec", byteOffset := 24 }, { name := "tables", type := 93, offset := 2, embedded := false, tag := "", pkgPath := "scarf/exec", byteOffset := 48 }, { name := "mems", type := 94, offset := 3, embedded := false, tag := "", pkgPath := "scarf/exec", byteOffset := 72 }, { name := "values", type := 95, offset := 4, embedded := false, tag := "", pkgPath := "scarf/exec", byteOffset := 96 }]) 5 120 (.agg #[(.slice none 0 0), (.slice none 0 0), (.slice none 0 0), (.slice none 0 0), (.slice none 0 0)]) := .of (by kernel_rfl) Tryz.underlying97 rfl
instance ty98 : TyIs Tryz.prog 98 (Go.TypeDesc.slice 60) 1 24 (.slice none 0 0) := .of (by kernel_rfl) Tryz.underlying98 rfl
instance ty99 : TyIs Tryz.prog 99 (Go.TypeDesc.slice 172) 1 24 (.slice none 0 0) := .of (by kernel_rfl) Tryz.underlying99 rfl
instance ty100 : TyIs Tryz.prog 100 (Go.TypeDesc.func #[55] #[99] false) 1 8 .nilFunc := .of (by kernel_rfl) Tryz.underlying100 rfl
instance ty101 : TyIs Tryz.prog 101 (Go.TypeDesc.func #[55] #[43] false) 1 8 .nilFunc := .of (by kernel_rfl) Tryz.underlying101 rfl
instance ty102 : TyIs Tryz.prog 102 (Go.TypeDesc.pointer 104) 1 8 (.pointer none) := .of (by kernel_rfl) Tryz.underlying102 rfl
instance ty103 : TyIs Tryz.prog 103 (Go.TypeDesc.struct #[{ name := "m", type := 55, offset := 0, embedded := false, tag := "", pkgPath := "scarf/exec", byteOffset := 0 }, { name := "funcs", type := 26, offset := 11, embedded := false, tag := "", pkgPath := "scarf/exec", byteOffset := 248 }, { name := "tables", type := 26, offset := 12, embedded := false, tag := "", pkgPath := "scarf/exec", byteOffset := 272 }, { name := "mems", type := 26, offset := 13, embedded := false, tag := "", pkgPath := "scarf/exec", byteOffset := 296 }, { name := "values", type := 26, offset := 14, embedded := false, tag := "", pkgPath := "scarf/exec", byteOffset := 320 }]) 15 344 (.agg #[(.slice none 0 0), (.slice none 0 0), (.slice none 0 0), (.slice none 0 0), (.slice none 0 0), (.slice none 0 0), (.slice none 0 0), (.int .i64 0), (.slice none 0 0), (.slice none 0 0), (.slice none 0 0), (.slice none 0 0), (.slice none 0 0), (.slice none 0 0), (.slice none 0 0)]) := .of (by kernel_rfl) Tryz.underlying103 rfl
instance ty104 : TyIs Tryz.prog 104 (Go.TypeDesc.struct #[{ name := "m", type := 55, offset := 0, embedded := false, tag := "", pkgPath := "scarf/exec", byteOffset := 0 }, { name := "funcs", type := 26, offset := 11, embedded := false, tag := "", pkgPath := "scarf/exec", byteOffset := 248 }, { name := "tables", type := 26, offset := 12, embedded := false, tag := "", pkgPath := "scarf/exec", byteOffset := 272 }, { name := "mems", type := 26, offset := 13, embedded := false, tag := "", pkgPath := "scarf/exec", byteOffset := 296 }, { name := "values", type := 26, offset := 14, embedded := false, tag := "", pkgPath := "scarf/exec", byteOffset := 320 }]) 15 344 (.agg #[(.slice none 0 0), (.slice none 0 0), (.slice none 0 0), (.slice none 0 0), (.slice none 0 0), (.slice none 0 0), (.slice none 0 0), (.int .i64 0), (.slice none 0 0), (.slice none 0 0), (.slice none 0 0), (.slice none 0 0), (.slice none 0 0), (.slice none 0 0), (.slice none 0 0)]) := .of (by kernel_rfl) Tryz.underlying104 rfl
instance ty105 : TyIs Tryz.prog 105 (Go.TypeDesc.struct #[{ name := "Min", type := 3, offset := 0, embedded := false, tag := "", pkgPath := "", byteOffset := 0 }, { name := "Max", type := 3, offset := 1, embedded := false, tag := "", pkgPath := "", byteOffset := 8 }]) 2 16 (.agg #[(.int .i64 0), (.int .i64 0)]) := .of (by kernel_rfl) Tryz.underlying105 rfl
instance ty106 : TyIs Tryz.prog 106 (Go.TypeDesc.struct #[{ name := "Min", type := 3, offset := 0, embedded := false, tag := "", pkgPath := "", byteOffset := 0 }, { name := "Max", type := 3, offset := 1, embedded := false, tag := "", pkgPath := "", byteOffset := 8 }]) 2 16 (.agg #[(.int .i64 0), (.int .i64 0)]) := .of (by kernel_rfl) Tryz.underlying106 rfl
instance ty107 : TyIs Tryz.prog 107 (Go.TypeDesc.struct #[{ name := "Mod", type := 9, offset := 0, embedded := false, tag := "", pkgPath := "", byteOffset := 0 }, { name := "Name", type := 9, offset := 1, embedded := false, tag := "", pkgPath := "", byteOffset := 16 }, { name := "Kind", type := 3, offset := 2, embedded := false, tag := "", pkgPath := "", byteOffset := 32 }, { name := "T", type := 3, offset := 3, embedded := false, tag := "", pkgPath := "", byteOffset := 40 }, { name := "Mut", type := 4, offset := 4, embedded := false, tag := "", pkgPath := "", byteOffset := 48 }, { name := "Lim", type := 106, offset := 5, embedded := false, tag := "", pkgPath := "", byteOffset := 56 }]) 7 72 (.agg #[(.string ⟨#[]⟩), (.string ⟨#[]⟩), (.int .i64 0), (.int .i64 0), (.bool false), (.int .i64 0), (.int .i64 0)]) := .of (by kernel_rfl) Tryz.underlying107 rfl
instance ty108 : TyIs Tryz.prog 108 (Go.TypeDesc.struct #[{ name := "Mod", type := 9, offset := 0, embedded := false, tag := "", pkgPath := "", byteOffset := 0 }, { name := "Name", type := 9, offset := 1, embedded := false, tag := "", pkgPath := "", byteOffset := 16 }, { name := "Kind", type := 3, offset := 2, embedded := false, tag := "", pkgPath := "", byteOffset := 32 }, { name := "T", type := 3, offset := 3, embedded := false, tag := "", pkgPath := "", byteOffset := 40 }, { name := "Mut", type := 4, offset := 4, embedded := false, tag := "", pkgPath := "", byteOffset := 48 }, { name := "Lim", type := 106, offset := 5, embedded := false, tag := "", pkgPath := "", byteOffset := 56 }]) 7 72 (.agg #[(.string ⟨#[]⟩), (.string ⟨#[]⟩), (.int .i64 0), (.int .i64 0), (.bool false), (.int .i64 0), (.int .i64 0)]) := .of (by kernel_rfl) Tryz.underlying108 rfl
instance ty109 : TyIs Tryz.prog 109 (Go.TypeDesc.func #[55, 108, 60] #[4] false) 1 8 .nilFunc := .of (by kernel_rfl) Tryz.underlying109 rfl
instance ty110 : TyIs Tryz.prog 110 (Go.TypeDesc.func #[102, 99] #[] false) 1 8 .nilFunc := .of (by kernel_rfl) Tryz.underlying110 rfl
instance ty111 : TyIs Tryz.prog 111 (Go.TypeDesc.func #[102] #[33] false) 1 8 .nilFunc := .of (by kernel_rfl) Tryz.underlying111 rfl
instance ty112 : TyIs Tryz.prog 112 (Go.TypeDesc.struct #[{ name := "P", type := 26, offset := 0, embedded := false, tag := "", pkgPath := "", byteOffset := 0 }, { name := "R", type := 26, offset := 1, embedded := false, tag := "", pkgPath := "", byteOffset := 24 }]) 2 48 (.agg #[(.slice none 0 0), (.slice none 0 0)]) := .of (by kernel_rfl) Tryz.underlying112 rfl
instance ty113 : TyIs Tryz.prog 113 (Go.TypeDesc.struct #[{ name := "P", type := 26, offset := 0, embedded := false, tag := "", pkgPath := "", byteOffset := 0 }, { name := "R", type := 26, offset := 1, embedded := false, tag := "", pkgPath := "", byteOffset := 24 }]) 2 48 (.agg #[(.slice none 0 0), (.slice none 0 0)]) := .of (by kernel_rfl) Tryz.underlying113 rfl
instance ty114 : TyIs Tryz.prog 114 (Go.TypeDesc.slice 116) 1 24 (.slice none 0 0) := .of (by kernel_rfl) Tryz.underlying114 rfl
instance ty115 : TyIs Tryz.prog 115 (Go.TypeDesc.struct #[{ name := "Op", type := 3, offset := 0, embedded := false, tag := "", pkgPath := "", byteOffset := 0 }, { name := "A", type := 3, offset := 1, embedded := false, tag := "", pkgPath := "", byteOffset := 8 }, { name := "B", type := 3, offset := 2, embedded := false, tag := "", pkgPath := "", byteOffset := 16 }, { name := "M", type := 3, offset := 3, embedded := false, tag := "", pkgPath := "", byteOffset := 24 }, { name := "N", type := 26, offset := 4, embedded := false, tag := "", pkgPath := "", byteOffset := 32 }, { name := "L", type := 114, offset := 5, embedded := false, tag := "", pkgPath := "", byteOffset := 56 }, { name := "E", type := 114, offset := 6, embedded := false, tag := "", pkgPath := "", byteOffset := 80 }]) 7 104 (.agg #[(.int .i64 0), (.int .i64 0), (.int .i64 0), (.int .i64 0), (.slice none 0 0), (.slice none 0 0), (.slice none 0 0)]) := .of (by kernel_rfl) Tryz.underlying115 rfl
instance ty116 : TyIs Tryz.prog 116 (Go.TypeDesc.struct #[{ name := "Op", type := 3, offset := 0, embedded := false, tag := "", pkgPath := "", byteOffset := 0 }, { name := "A", type := 3, offset := 1, embedded := false, tag := "", pkgPath := "", byteOffset := 8 }, { name := "B", type := 3, offset := 2, embedded := false, tag := "", pkgPath := "", byteOffset := 16 }, { name := "M", type := 3, offset := 3, embedded := false, tag := "", pkgPath := "", byteOffset := 24 }, { name := "N", type := 26, offset := 4, embedded := false, tag := "", pkgPath := "", byteOffset := 32 }, { name := "L", type := 114, offset := 5, embedded := false, tag := "", pkgPath := "", byteOffset := 56 }, { name := "E", type := 114, offset := 6, embedded := false, tag := "", pkgPath := "", byteOffset := 80 }]) 7 104 (.agg #[(.int .i64 0), (.int .i64 0), (.int .i64 0), (.int .i64 0), (.slice none 0 0), (.slice none 0 0), (.slice none 0 0)]) := .of (by kernel_rfl) Tryz.underlying116 rfl
instance ty117 : TyIs Tryz.prog 117 (Go.TypeDesc.struct #[{ name := "T", type := 3, offset := 0, embedded := false, tag := "", pkgPath := "", byteOffset := 0 }, { name := "Mut", type := 4, offset := 1, embedded := false, tag := "", pkgPath := "", byteOffset := 8 }, { name := "Init", type := 116, offset := 2, embedded := false, tag := "", pkgPath := "", byteOffset := 16 }]) 9 120 (.agg #[(.int .i64 0), (.bool false), (.int .i64 0), (.int .i64 0), (.int .i64 0), (.int .i64 0), (.slice none 0 0), (.slice none 0 0), (.slice none 0 0)]) := .of (by kernel_rfl) Tryz.underlying117 rfl
instance ty118 : TyIs Tryz.prog 118 (Go.TypeDesc.struct #[{ name := "T", type := 3, offset := 0, embedded := false, tag := "", pkgPath := "", byteOffset := 0 }, { name := "Mut", type := 4, offset := 1, embedded := false, tag := "", pkgPath := "", byteOffset := 8 }, { name := "Init", type := 116, offset := 2, embedded := false, tag := "", pkgPath := "", byteOffset := 16 }]) 9 120 (.agg #[(.int .i64 0), (.bool false), (.int .i64 0), (.int .i64 0), (.int .i64 0), (.int .i64 0), (.slice none 0 0), (.slice none 0 0), (.slice none 0 0)]) := .of (by kernel_rfl) Tryz.underlying118 rfl
instance ty119 : TyIs Tryz.prog 119 (Go.TypeDesc.struct #[{ name := "Name", type := 9, offset := 0, embedded := false, tag := "", pkgPath := "", byteOffset := 0 }, { name := "Kind", type := 3, offset := 1, embedded := false, tag := "", pkgPath := "", byteOffset := 16 }, { name := "I", type := 3, offset := 2, embedded := false, tag := "", pkgPath := "", byteOffset := 24 }]) 3 32 (.agg #[(.string ⟨#[]⟩), (.int .i64 0), (.int .i64 0)]) := .of (by kernel_rfl) Tryz.underlying119 rfl
instance ty120 : TyIs Tryz.prog 120 (Go.TypeDesc.struct #[{ name := "Name", type := 9, offset := 0, embedded := false, tag := "", pkgPath := "", byteOffset := 0 }, { name := "Kind", type := 3, offset := 1, embedded := false, tag := "", pkgPath := "", byteOffset := 16 }, { name := "I", type := 3, offset := 2, embedded := false, tag := "", pkgPath := "", byteOffset := 24 }]) 3 32 (.agg #[(.string ⟨#[]⟩), (.int .i64 0), (.int .i64 0)]) := .of (by kernel_rfl) Tryz.underlying120 rfl
instance ty121 : TyIs Tryz.prog 121 (Go.TypeDesc.struct #[{ name := "Locals", type := 26, offset := 0, embedded := false, tag := "", pkgPath := "", byteOffset := 0 }, { name := "L", type := 114, offset := 1, embedded := false, tag := "", pkgPath := "", byteOffset := 24 }]) 2 48 (.agg #[(.slice none 0 0), (.slice none 0 0)]) := .of (by kernel_rfl) Tryz.underlying121 rfl
instance ty122 : TyIs Tryz.prog 122 (Go.TypeDesc.struct #[{ name := "Locals", type := 26, offset := 0, embedded := false, tag := "", pkgPath := "", byteOffset := 0 }, { name := "L", type := 114, offset := 1, embedded := false, tag := "", pkgPath := "", byteOffset := 24 }]) 2 48 (.agg #[(.slice none 0 0), (.slice none 0 0)]) := .of (by kernel_rfl) Tryz.underlying122 rfl
instance ty124 : TyIs Tryz.prog 124 (Go.TypeDesc.func #[60] #[113, 4] false) 1 8 .nilFunc := .of (by kernel_rfl) Tryz.underlying124 rfl
instance ty125 : TyIs Tryz.prog 125 (Go.TypeDesc.func #[60] #[70] false) 1 8 .nilFunc := .of (by kernel_rfl) Tryz.underlying125 rfl
instance ty126 : TyIs Tryz.prog 126 (Go.TypeDesc.func #[3] #[4] false) 1 8 .nilFunc := .of (by kernel_rfl) Tryz.underlying126 rfl
instance ty127 : TyIs Tryz.prog 127 (Go.TypeDesc.func #[26, 26] #[4] false) 1 8 .nilFunc := .of (by kernel_rfl) Tryz.underlying127 rfl
instance ty128 : TyIs Tryz.prog 128 (Go.TypeDesc.func #[26] #[26] false) 1 8 .nilFunc := .of (by kernel_rfl) Tryz.underlying128 rfl
instance ty130 : TyIs Tryz.prog 130 (Go.TypeDesc.func #[106] #[70, 43] false) 1 8 .nilFunc := .of (by kernel_rfl) Tryz.underlying130 rfl
instance ty131 : TyIs Tryz.prog 131 (Go.TypeDesc.func #[66] #[66] false) 1 8 .nilFunc := .of (by kernel_rfl) Tryz.underlying131 rfl
instance ty132 : TyIs Tryz.prog 132 (Go.TypeDesc.slice 136) 1 24 (.slice none 0 0) := .of (by kernel_rfl) Tryz.underlying132 rfl
instance ty134 : TyIs Tryz.prog 134 (Go.TypeDesc.func #[106] #[71, 3] false) 1 8 .nilFunc := .of (by kernel_rfl) Tryz.underlying134 rfl
instance ty135 : TyIs Tryz.prog 135 (Go.TypeDesc.struct #[{ name := "At", type := 3, offset := 0, embedded := false, tag := "", pkgPath := "", byteOffset := 0 }, { name := "S", type := 9, offset := 1, embedded := false, tag := "", pkgPath := "", byteOffset := 8 }]) 2 24 (.agg #[(.int .i64 0), (.string ⟨#[]⟩)]) := .of (by kernel_rfl) Tryz.underlying135 rfl
instance ty136 : TyIs Tryz.prog 136 (Go.TypeDesc.struct #[{ name := "At", type := 3, offset := 0, embedded := false, tag := "", pkgPath := "", byteOffset := 0 }, { name := "S", type := 9, offset := 1, embedded := false, tag := "", pkgPath := "", byteOffset := 8 }]) 2 24 (.agg #[(.int .i64 0), (.string ⟨#[]⟩)]) := .of (by kernel_rfl) Tryz.underlying136 rfl
instance ty137 : TyIs Tryz.prog 137 (Go.TypeDesc.func #[3, 9] #[3] false) 1 8 .nilFunc := .of (by kernel_rfl) Tryz.underlying137 rfl
instance ty138 : TyIs Tryz.prog 138 (Go.TypeDesc.slice 5) 1 24 (.slice none 0 0) := .of (by kernel_rfl) Tryz.underlying138 rfl
instance ty140 : TyIs Tryz.prog 140 (Go.TypeDesc.func #[3, 3] #[138, 4] false) 1 8 .nilFunc := .of (by kernel_rfl) Tryz.underlying140 rfl
instance ty141 : TyIs Tryz.prog 141 (Go.TypeDesc.func #[25, 3] #[3] false) 1 8 .nilFunc := .of (by kernel_rfl) Tryz.underlying141 rfl
instance ty142 : TyIs Tryz.prog 142 (Go.TypeDesc.float Go.FloatKind.f64) 1 8 (.float .f64 0) := .of (by kernel_rfl) Tryz.underlying142 rfl
instance ty143 : TyIs Tryz.prog 143 (Go.TypeDesc.complex Go.FloatKind.f64) 1 16 (.complex .f64 0 0) := .of (by kernel_rfl) Tryz.underlying143 rfl
instance ty144 : TyIs Tryz.prog 144 (Go.TypeDesc.func #[25] #[143] false) 1 8 .nilFunc := .of (by kernel_rfl) Tryz.underlying144 rfl
instance ty146 : TyIs Tryz.prog 146 (Go.TypeDesc.func #[3, 3] #[26, 33] false) 1 8 .nilFunc := .of (by kernel_rfl) Tryz.underlying146 rfl
instance ty147 : TyIs Tryz.prog 147 (Go.TypeDesc.func #[3, 3, 4] #[3] false) 1 8 .nilFunc := .of (by kernel_rfl) Tryz.underlying147 rfl
instance ty149 : TyIs Tryz.prog 149 (Go.TypeDesc.func #[25, 3, 3] #[27, 33] false) 1 8 .nilFunc := .of (by kernel_rfl) Tryz.underlying149 rfl
instance ty150 : TyIs Tryz.prog 150 (Go.TypeDesc.func #[25] #[26] false) 1 8 .nilFunc := .of (by kernel_rfl) Tryz.underlying150 rfl
instance ty151 : TyIs Tryz.prog 151 (Go.TypeDesc.func #[25] #[3, 3] false) 1 8 .nilFunc := .of (by kernel_rfl) Tryz.underlying151 rfl
instance ty153 : TyIs Tryz.prog 153 (Go.TypeDesc.func #[25, 3] #[25, 4] false) 1 8 .nilFunc := .of (by kernel_rfl) Tryz.underlying153 rfl
instance ty155 : TyIs Tryz.prog 155 (Go.TypeDesc.func #[25, 3] #[29, 33, 4] false) 1 8 .nilFunc := .of (by kernel_rfl) Tryz.underlying155 rfl
instance ty156 : TyIs Tryz.prog 156 (Go.TypeDesc.func #[138, 3] #[138] false) 1 8 .nilFunc := .of (by kernel_rfl) Tryz.underlying156 rfl
instance ty157 : TyIs Tryz.prog 157 (Go.TypeDesc.func #[25, 29] #[3] false) 1 8 .nilFunc := .of (by kernel_rfl) Tryz.underlying157 rfl
instance ty158 : TyIs Tryz.prog 158 (Go.TypeDesc.func #[3, 3, 3] #[] false) 1 8 .nilFunc := .of (by kernel_rfl) Tryz.underlying158 rfl
instance ty159 : TyIs Tryz.prog 159 (Go.TypeDesc.func #[3, 4] #[3, 3] false) 1 8 .nilFunc := .of (by kernel_rfl) Tryz.underlying159 rfl
instance ty160 : TyIs Tryz.prog 160 (Go.TypeDesc.int Go.IntKind.u32) 1 4 (.int .u32 0) := .of (by kernel_rfl) Tryz.underlying160 rfl
instance ty161 : TyIs Tryz.prog 161 (Go.TypeDesc.pointer 228) 1 8 (.pointer none) := .of (by kernel_rfl) Tryz.underlying161 rfl
instance ty163 : TyIs Tryz.prog 163 (Go.TypeDesc.func #[60, 26, 3] #[161, 43] false) 1 8 .nilFunc := .of (by kernel_rfl) Tryz.underlying163 rfl
instance ty164 : TyIs Tryz.prog 164 (Go.TypeDesc.struct #[{ name := "Kind", type := 3, offset := 0, embedded := false, tag := "", pkgPath := "", byteOffset := 0 }, { name := "Trap", type := 33, offset := 1, embedded := false, tag := "", pkgPath := "", byteOffset := 8 }, { name := "Tag", type := 3, offset := 2, embedded := false, tag := "", pkgPath := "", byteOffset := 16 }, { name := "Vals", type := 26, offset := 3, embedded := false, tag := "", pkgPath := "", byteOffset := 24 }, { name := "Fuel", type := 3, offset := 4, embedded := false, tag := "", pkgPath := "", byteOffset := 48 }]) 5 56 (.agg #[(.int .i64 0), (.int .i64 0), (.int .i64 0), (.slice none 0 0), (.int .i64 0)]) := .of (by kernel_rfl) Tryz.underlying164 rfl
instance ty165 : TyIs Tryz.prog 165 (Go.TypeDesc.struct #[{ name := "Kind", type := 3, offset := 0, embedded := false, tag := "", pkgPath := "", byteOffset := 0 }, { name := "Trap", type := 33, offset := 1, embedded := false, tag := "", pkgPath := "", byteOffset := 8 }, { name := "Tag", type := 3, offset := 2, embedded := false, tag := "", pkgPath := "", byteOffset := 16 }, { name := "Vals", type := 26, offset := 3, embedded := false, tag := "", pkgPath := "", byteOffset := 24 }, { name := "Fuel", type := 3, offset := 4, embedded := false, tag := "", pkgPath := "", byteOffset := 48 }]) 5 56 (.agg #[(.int .i64 0), (.int .i64 0), (.int .i64 0), (.slice none 0 0), (.int .i64 0)]) := .of (by kernel_rfl) Tryz.underlying165 rfl
instance ty166 : TyIs Tryz.prog 166 (Go.TypeDesc.func #[] #[165] false) 1 8 .nilFunc := .of (by kernel_rfl) Tryz.underlying166 rfl
instance ty167 : TyIs Tryz.prog 167 (Go.TypeDesc.func #[33] #[43] false) 1 8 .nilFunc := .of (by kernel_rfl) Tryz.underlying167 rfl
instance ty168 : TyIs Tryz.prog 168 (Go.TypeDesc.struct #[{ name := "Types", type := 46, offset := 0, embedded := false, tag := "", pkgPath := "", byteOffset := 0 }, { name := "Funcs", type := 26, offset := 1, embedded := false, tag := "", pkgPath := "", byteOffset := 24 }, { name := "Tables", type := 48, offset := 2, embedded := false, tag := "", pkgPath := "", byteOffset := 48 }, { name := "Mems", type := 48, offset := 3, embedded := false, tag := "", pkgPath := "", byteOffset := 72 }, { name := "Globals", type := 49, offset := 4, embedded := false, tag := "", pkgPath := "", byteOffset := 96 }, { name := "Outer", type := 3, offset := 5, embedded := false, tag := "", pkgPath := "", byteOffset := 120 }]) 6 128 (.agg #[(.slice none 0 0), (.slice none 0 0), (.slice none 0 0), (.slice none 0 0), (.slice none 0 0), (.int .i64 0)]) := .of (by kernel_rfl) Tryz.underlying168 rfl
instance ty169 : TyIs Tryz.prog 169 (Go.TypeDesc.struct #[{ name := "Types", type := 46, offset := 0, embedded := false, tag := "", pkgPath := "", byteOffset := 0 }, { name := "Funcs", type := 26, offset := 1, embedded := false, tag := "", pkgPath := "", byteOffset := 24 }, { name := "Tables", type := 48, offset := 2, embedded := false, tag := "", pkgPath := "", byteOffset := 48 }, { name := "Mems", type := 48, offset := 3, embedded := false, tag := "", pkgPath := "", byteOffset := 72 }, { name := "Globals", type := 49, offset := 4, embedded := false, tag := "", pkgPath := "", byteOffset := 96 }, { name := "Outer", type := 3, offset := 5, embedded := false, tag := "", pkgPath := "", byteOffset := 120 }]) 6 128 (.agg #[(.slice none 0 0), (.slice none 0 0), (.slice none 0 0), (.slice none 0 0), (.slice none 0 0), (.int .i64 0)]) := .of (by kernel_rfl) Tryz.underlying169 rfl
instance ty170 : TyIs Tryz.prog 170 (Go.TypeDesc.func #[55] #[169] false) 1 8 .nilFunc := .of (by kernel_rfl) Tryz.underlying170 rfl
instance ty171 : TyIs Tryz.prog 171 (Go.TypeDesc.pointer 175) 1 8 (.pointer none) := .of (by kernel_rfl) Tryz.underlying171 rfl
instance ty172 : TyIs Tryz.prog 172 (Go.TypeDesc.slice 183) 1 24 (.slice none 0 0) := .of (by kernel_rfl) Tryz.underlying172 rfl
instance ty173 : TyIs Tryz.prog 173 (Go.TypeDesc.slice 176) 1 24 (.slice none 0 0) := .of (by kernel_rfl) Tryz.underlying173 rfl
instance ty174 : TyIs Tryz.prog 174 (Go.TypeDesc.struct #[{ name := "s", type := 169, offset := 0, embedded := false, tag := "", pkgPath := "scarf/flat", byteOffset := 0 }, { name := "l", type := 172, offset := 6, embedded := false, tag := "", pkgPath := "scarf/flat", byteOffset := 128 }, { name := "blocks", type := 173, offset := 7, embedded := false, tag := "", pkgPath := "scarf/flat", byteOffset := 152 }, { name := "height", type := 3, offset := 8, embedded := false, tag := "", pkgPath := "scarf/flat", byteOffset := 176 }, { name := "dead", type := 4, offset := 9, embedded := false, tag := "", pkgPath := "scarf/flat", byteOffset := 184 }]) 10 192 (.agg #[(.slice none 0 0), (.slice none 0 0), (.slice none 0 0), (.slice none 0 0), (.slice none 0 0), (.int .i64 0), (.slice none 0 0), (.slice none 0 0), (.int .i64 0), (.bool false)]) := .of (by kernel_rfl) Tryz.underlying174 rfl
instance ty175 : TyIs Tryz.prog 175 (Go.TypeDesc.struct #[{ name := "s", type := 169, offset := 0, embedded := false, tag := "", pkgPath := "scarf/flat", byteOffset := 0 }, { name := "l", type := 172, offset := 6, embedded := false, tag := "", pkgPath := "scarf/flat", byteOffset := 128 }, { name := "blocks", type := 173, offset := 7, embedded := false, tag := "", pkgPath := "scarf/flat", byteOffset := 152 }, { name := "height", type := 3, offset := 8, embedded := false, tag := "", pkgPath := "scarf/flat", byteOffset := 176 }, { name := "dead", type := 4, offset := 9, embedded := false, tag := "", pkgPath := "scarf/flat", byteOffset := 184 }]) 10 192 (.agg #[(.slice none 0 0), (.slice none 0 0), (.slice none 0 0), (.slice none 0 0), (.slice none 0 0), (.int .i64 0), (.slice none 0 0), (.slice none 0 0), (.int .i64 0), (.bool false)]) := .of (by kernel_rfl) Tryz.underlying175 rfl
instance ty176 : TyIs Tryz.prog 176 (Go.TypeDesc.pointer 232) 1 8 (.pointer none) := .of (by kernel_rfl) Tryz.underlying176 rfl
instance ty177 : TyIs Tryz.prog 177 (Go.TypeDesc.func #[4, 3, 3] #[176] false) 1 8 .nilFunc := .of (by kernel_rfl) Tryz.underlying177 rfl
instance ty178 : TyIs Tryz.prog 178 (Go.TypeDesc.func #[114] #[] false) 1 8 .nilFunc := .of (by kernel_rfl) Tryz.underlying178 rfl
instance ty179 : TyIs Tryz.prog 179 (Go.TypeDesc.func #[3] #[] false) 1 8 .nilFunc := .of (by kernel_rfl) Tryz.underlying179 rfl
instance ty180 : TyIs Tryz.prog 180 (Go.TypeDesc.func #[183] #[3] false) 1 8 .nilFunc := .of (by kernel_rfl) Tryz.underlying180 rfl
instance ty181 : TyIs Tryz.prog 181 (Go.TypeDesc.slice 237) 1 24 (.slice none 0 0) := .of (by kernel_rfl) Tryz.underlying181 rfl
instance ty182 : TyIs Tryz.prog 182 (Go.TypeDesc.struct #[{ name := "Op", type := 3, offset := 0, embedded := false, tag := "", pkgPath := "", byteOffset := 0 }, { name := "A", type := 3, offset := 1, embedded := false, tag := "", pkgPath := "", byteOffset := 8 }, { name := "M", type := 3, offset := 2, embedded := false, tag := "", pkgPath := "", byteOffset := 16 }, { name := "J", type := 181, offset := 3, embedded := false, tag := "", pkgPath := "", byteOffset := 24 }]) 4 48 (.agg #[(.int .i64 0), (.int .i64 0), (.int .i64 0), (.slice none 0 0)]) := .of (by kernel_rfl) Tryz.underlying182 rfl
instance ty183 : TyIs Tryz.prog 183 (Go.TypeDesc.struct #[{ name := "Op", type := 3, offset := 0, embedded := false, tag := "", pkgPath := "", byteOffset := 0 }, { name := "A", type := 3, offset := 1, embedded := false, tag := "", pkgPath := "", byteOffset := 8 }, { name := "M", type := 3, offset := 2, embedded := false, tag := "", pkgPath := "", byteOffset := 16 }, { name := "J", type := 181, offset := 3, embedded := false, tag := "", pkgPath := "", byteOffset := 24 }]) 4 48 (.agg #[(.int .i64 0), (.int .i64 0), (.int .i64 0), (.slice none 0 0)]) := .of (by kernel_rfl) Tryz.underlying183 rfl
instance ty185 : TyIs Tryz.prog 185 (Go.TypeDesc.func #[55] #[9, 43] false) 1 8 .nilFunc := .of (by kernel_rfl) Tryz.underlying185 rfl
instance ty186 : TyIs Tryz.prog 186 (Go.TypeDesc.func #[55, 3] #[43] false) 1 8 .nilFunc := .of (by kernel_rfl) Tryz.underlying186 rfl
instance ty187 : TyIs Tryz.prog 187 (Go.TypeDesc.func #[60] #[4] false) 1 8 .nilFunc := .of (by kernel_rfl) Tryz.underlying187 rfl
instance ty188 : TyIs Tryz.prog 188 (Go.TypeDesc.func #[113, 113] #[4] false) 1 8 .nilFunc := .of (by kernel_rfl) Tryz.underlying188 rfl
instance ty189 : TyIs Tryz.prog 189 (Go.TypeDesc.struct #[{ name := "t", type := 113, offset := 0, embedded := false, tag := "", pkgPath := "scarf/exec", byteOffset := 0 }, { name := "of", type := 102, offset := 2, embedded := false, tag := "", pkgPath := "scarf/exec", byteOffset := 48 }, { name := "code", type := 172, offset := 3, embedded := false, tag := "", pkgPath := "scarf/exec", byteOffset := 56 }, { name := "locals", type := 3, offset := 4, embedded := false, tag := "", pkgPath := "scarf/exec", byteOffset := 80 }, { name := "tag", type := 3, offset := 5, embedded := false, tag := "", pkgPath := "scarf/exec", byteOffset := 88 }, { name := "host", type := 4, offset := 6, embedded := false, tag := "", pkgPath := "scarf/exec", byteOffset := 96 }]) 7 104 (.agg #[(.slice none 0 0), (.slice none 0 0), (.pointer none), (.slice none 0 0), (.int .i64 0), (.int .i64 0), (.bool false)]) := .of (by kernel_rfl) Tryz.underlying189 rfl
instance ty190 : TyIs Tryz.prog 190 (Go.TypeDesc.struct #[{ name := "t", type := 113, offset := 0, embedded := false, tag := "", pkgPath := "scarf/exec", byteOffset := 0 }, { name := "of", type := 102, offset := 2, embedded := false, tag := "", pkgPath := "scarf/exec", byteOffset := 48 }, { name := "code", type := 172, offset := 3, embedded := false, tag := "", pkgPath := "scarf/exec", byteOffset := 56 }, { name := "locals", type := 3, offset := 4, embedded := false, tag := "", pkgPath := "scarf/exec", byteOffset := 80 }, { name := "tag", type := 3, offset := 5, embedded := false, tag := "", pkgPath := "scarf/exec", byteOffset := 88 }, { name := "host", type := 4, offset := 6, embedded := false, tag := "", pkgPath := "scarf/exec", byteOffset := 96 }]) 7 104 (.agg #[(.slice none 0 0), (.slice none 0 0), (.pointer none), (.slice none 0 0), (.int .i64 0), (.int .i64 0), (.bool false)]) := .of (by kernel_rfl) Tryz.underlying190 rfl
instance ty191 : TyIs Tryz.prog 191 (Go.TypeDesc.pointer 194) 1 8 (.pointer none) := .of (by kernel_rfl) Tryz.underlying191 rfl
instance ty192 : TyIs Tryz.prog 192 (Go.TypeDesc.func #[106, 3, 3] #[4] false) 1 8 .nilFunc := .of (by kernel_rfl) Tryz.underlying192 rfl
instance ty193 : TyIs Tryz.prog 193 (Go.TypeDesc.struct #[{ name := "l", type := 26, offset := 0, embedded := false, tag := "", pkgPath := "scarf/exec", byteOffset := 0 }, { name := "most", type := 3, offset := 1, embedded := false, tag := "", pkgPath := "scarf/exec", byteOffset := 24 }]) 2 32 (.agg #[(.slice none 0 0), (.int .i64 0)]) := .of (by kernel_rfl) Tryz.underlying193 rfl
instance ty194 : TyIs Tryz.prog 194 (Go.TypeDesc.struct #[{ name := "l", type := 26, offset := 0, embedded := false, tag := "", pkgPath := "scarf/exec", byteOffset := 0 }, { name := "most", type := 3, offset := 1, embedded := false, tag := "", pkgPath := "scarf/exec", byteOffset := 24 }]) 2 32 (.agg #[(.slice none 0 0), (.int .i64 0)]) := .of (by kernel_rfl) Tryz.underlying194 rfl
instance ty195 : TyIs Tryz.prog 195 (Go.TypeDesc.pointer 197) 1 8 (.pointer none) := .of (by kernel_rfl) Tryz.underlying195 rfl
instance ty196 : TyIs Tryz.prog 196 (Go.TypeDesc.struct #[{ name := "t", type := 3, offset := 0, embedded := false, tag := "", pkgPath := "scarf/exec", byteOffset := 0 }, { name := "v", type := 3, offset := 1, embedded := false, tag := "", pkgPath := "scarf/exec", byteOffset := 8 }, { name := "mut", type := 4, offset := 2, embedded := false, tag := "", pkgPath := "scarf/exec", byteOffset := 16 }]) 3 24 (.agg #[(.int .i64 0), (.int .i64 0), (.bool false)]) := .of (by kernel_rfl) Tryz.underlying196 rfl
instance ty197 : TyIs Tryz.prog 197 (Go.TypeDesc.struct #[{ name := "t", type := 3, offset := 0, embedded := false, tag := "", pkgPath := "scarf/exec", byteOffset := 0 }, { name := "v", type := 3, offset := 1, embedded := false, tag := "", pkgPath := "scarf/exec", byteOffset := 8 }, { name := "mut", type := 4, offset := 2, embedded := false, tag := "", pkgPath := "scarf/exec", byteOffset := 16 }]) 3 24 (.agg #[(.int .i64 0), (.int .i64 0), (.bool false)]) := .of (by kernel_rfl) Tryz.underlying197 rfl
instance ty198 : TyIs Tryz.prog 198 (Go.TypeDesc.func #[102, 116] #[3] false) 1 8 .nilFunc := .of (by kernel_rfl) Tryz.underlying198 rfl
instance ty199 : TyIs Tryz.prog 199 (Go.TypeDesc.struct #[{ name := "Table", type := 3, offset := 0, embedded := false, tag := "", pkgPath := "", byteOffset := 0 }, { name := "Off", type := 116, offset := 1, embedded := false, tag := "", pkgPath := "", byteOffset := 8 }, { name := "F", type := 26, offset := 8, embedded := false, tag := "", pkgPath := "", byteOffset := 112 }]) 9 136 (.agg #[(.int .i64 0), (.int .i64 0), (.int .i64 0), (.int .i64 0), (.int .i64 0), (.slice none 0 0), (.slice none 0 0), (.slice none 0 0), (.slice none 0 0)]) := .of (by kernel_rfl) Tryz.underlying199 rfl
instance ty200 : TyIs Tryz.prog 200 (Go.TypeDesc.struct #[{ name := "Table", type := 3, offset := 0, embedded := false, tag := "", pkgPath := "", byteOffset := 0 }, { name := "Off", type := 116, offset := 1, embedded := false, tag := "", pkgPath := "", byteOffset := 8 }, { name := "F", type := 26, offset := 8, embedded := false, tag := "", pkgPath := "", byteOffset := 112 }]) 9 136 (.agg #[(.int .i64 0), (.int .i64 0), (.int .i64 0), (.int .i64 0), (.int .i64 0), (.slice none 0 0), (.slice none 0 0), (.slice none 0 0), (.slice none 0 0)]) := .of (by kernel_rfl) Tryz.underlying200 rfl
instance ty201 : TyIs Tryz.prog 201 (Go.TypeDesc.struct #[{ name := "Mem", type := 3, offset := 0, embedded := false, tag := "", pkgPath := "", byteOffset := 0 }, { name := "Off", type := 116, offset := 1, embedded := false, tag := "", pkgPath := "", byteOffset := 8 }, { name := "B", type := 9, offset := 8, embedded := false, tag := "", pkgPath := "", byteOffset := 112 }]) 9 128 (.agg #[(.int .i64 0), (.int .i64 0), (.int .i64 0), (.int .i64 0), (.int .i64 0), (.slice none 0 0), (.slice none 0 0), (.slice none 0 0), (.string ⟨#[]⟩)]) := .of (by kernel_rfl) Tryz.underlying201 rfl
instance ty202 : TyIs Tryz.prog 202 (Go.TypeDesc.struct #[{ name := "Mem", type := 3, offset := 0, embedded := false, tag := "", pkgPath := "", byteOffset := 0 }, { name := "Off", type := 116, offset := 1, embedded := false, tag := "", pkgPath := "", byteOffset := 8 }, { name := "B", type := 9, offset := 8, embedded := false, tag := "", pkgPath := "", byteOffset := 112 }]) 9 128 (.agg #[(.int .i64 0), (.int .i64 0), (.int .i64 0), (.int .i64 0), (.int .i64 0), (.slice none 0 0), (.slice none 0 0), (.slice none 0 0), (.string ⟨#[]⟩)]) := .of (by kernel_rfl) Tryz.underlying202 rfl
instance ty203 : TyIs Tryz.prog 203 (Go.TypeDesc.func #[106] #[43] false) 1 8 .nilFunc := .of (by kernel_rfl) Tryz.underlying203 rfl
instance ty204 : TyIs Tryz.prog 204 (Go.TypeDesc.struct #[{ name := "b", type := 138, offset := 0, embedded := false, tag := "", pkgPath := "scarf/mem", byteOffset := 0 }, { name := "most", type := 3, offset := 1, embedded := false, tag := "", pkgPath := "scarf/mem", byteOffset := 24 }, { name := "bound", type := 3, offset := 2, embedded := false, tag := "", pkgPath := "scarf/mem", byteOffset := 32 }]) 3 40 (.agg #[(.slice none 0 0), (.int .i64 0), (.int .i64 0)]) := .of (by kernel_rfl) Tryz.underlying204 rfl
instance ty205 : TyIs Tryz.prog 205 (Go.TypeDesc.struct #[{ name := "b", type := 138, offset := 0, embedded := false, tag := "", pkgPath := "scarf/mem", byteOffset := 0 }, { name := "most", type := 3, offset := 1, embedded := false, tag := "", pkgPath := "scarf/mem", byteOffset := 24 }, { name := "bound", type := 3, offset := 2, embedded := false, tag := "", pkgPath := "scarf/mem", byteOffset := 32 }]) 3 40 (.agg #[(.slice none 0 0), (.int .i64 0), (.int .i64 0)]) := .of (by kernel_rfl) Tryz.underlying205 rfl
instance ty206 : TyIs Tryz.prog 206 (Go.TypeDesc.func #[106] #[4] false) 1 8 .nilFunc := .of (by kernel_rfl) Tryz.underlying206 rfl
instance ty207 : TyIs Tryz.prog 207 (Go.TypeDesc.struct #[{ name := "S", type := 138, offset := 0, embedded := false, tag := "", pkgPath := "", byteOffset := 0 }, { name := "Max", type := 3, offset := 1, embedded := false, tag := "", pkgPath := "", byteOffset := 24 }, { name := "Bound", type := 3, offset := 2, embedded := false, tag := "", pkgPath := "", byteOffset := 32 }]) 3 40 (.agg #[(.slice none 0 0), (.int .i64 0), (.int .i64 0)]) := .of (by kernel_rfl) Tryz.underlying207 rfl
instance ty208 : TyIs Tryz.prog 208 (Go.TypeDesc.struct #[{ name := "S", type := 138, offset := 0, embedded := false, tag := "", pkgPath := "", byteOffset := 0 }, { name := "Max", type := 3, offset := 1, embedded := false, tag := "", pkgPath := "", byteOffset := 24 }, { name := "Bound", type := 3, offset := 2, embedded := false, tag := "", pkgPath := "", byteOffset := 32 }]) 3 40 (.agg #[(.slice none 0 0), (.int .i64 0), (.int .i64 0)]) := .of (by kernel_rfl) Tryz.underlying208 rfl
instance ty209 : TyIs Tryz.prog 209 (Go.TypeDesc.func #[3, 3] #[4] false) 1 8 .nilFunc := .of (by kernel_rfl) Tryz.underlying209 rfl
instance ty210 : TyIs Tryz.prog 210 (Go.TypeDesc.func #[] #[138] false) 1 8 .nilFunc := .of (by kernel_rfl) Tryz.underlying210 rfl
instance ty211 : TyIs Tryz.prog 211 (Go.TypeDesc.func #[22] #[4] false) 1 8 .nilFunc := .of (by kernel_rfl) Tryz.underlying211 rfl
instance ty212 : TyIs Tryz.prog 212 (Go.TypeDesc.func #[25] #[4] false) 1 8 .nilFunc := .of (by kernel_rfl) Tryz.underlying212 rfl
instance ty213 : TyIs Tryz.prog 213 (Go.TypeDesc.func #[3] #[143] false) 1 8 .nilFunc := .of (by kernel_rfl) Tryz.underlying213 rfl
instance ty214 : TyIs Tryz.prog 214 (Go.TypeDesc.func #[25] #[25] false) 1 8 .nilFunc := .of (by kernel_rfl) Tryz.underlying214 rfl
instance ty215 : TyIs Tryz.prog 215 (Go.TypeDesc.func #[3] #[3] false) 1 8 .nilFunc := .of (by kernel_rfl) Tryz.underlying215 rfl
instance ty216 : TyIs Tryz.prog 216 (Go.TypeDesc.func #[3, 3] #[3] false) 1 8 .nilFunc := .of (by kernel_rfl) Tryz.underlying216 rfl
instance ty218 : TyIs Tryz.prog 218 (Go.TypeDesc.func #[3, 9] #[26, 4] false) 1 8 .nilFunc := .of (by kernel_rfl) Tryz.underlying218 rfl
instance ty219 : TyIs Tryz.prog 219 (Go.TypeDesc.func #[3] #[5] false) 1 8 .nilFunc := .of (by kernel_rfl) Tryz.underlying219 rfl
instance ty220 : TyIs Tryz.prog 220 (Go.TypeDesc.int Go.IntKind.u64) 1 8 (.int .u64 0) := .of (by kernel_rfl) Tryz.underlying220 rfl
instance ty222 : TyIs Tryz.prog 222 (Go.TypeDesc.func #[3] #[3, 3, 4] false) 1 8 .nilFunc := .of (by kernel_rfl) Tryz.underlying222 rfl
instance ty223 : TyIs Tryz.prog 223 (Go.TypeDesc.func #[26, 126] #[4] false) 1 8 .nilFunc := .of (by kernel_rfl) Tryz.underlying223 rfl
instance ty224 : TyIs Tryz.prog 224 (Go.TypeDesc.func #[23, 27] #[3] false) 1 8 .nilFunc := .of (by kernel_rfl) Tryz.underlying224 rfl
instance ty225 : TyIs Tryz.prog 225 (Go.TypeDesc.func #[23, 3] #[23] false) 1 8 .nilFunc := .of (by kernel_rfl) Tryz.underlying225 rfl
instance ty226 : TyIs Tryz.prog 226 (Go.TypeDesc.slice 288) 1 24 (.slice none 0 0) := .of (by kernel_rfl) Tryz.underlying226 rfl
instance ty227 : TyIs Tryz.prog 227 (Go.TypeDesc.struct #[{ name := "s", type := 41, offset := 0, embedded := false, tag := "", pkgPath := "scarf/exec", byteOffset := 0 }, { name := "stack", type := 26, offset := 1, embedded := false, tag := "", pkgPath := "scarf/exec", byteOffset := 8 }, { name := "frames", type := 226, offset := 2, embedded := false, tag := "", pkgPath := "scarf/exec", byteOffset := 32 }, { name := "status", type := 165, offset := 3, embedded := false, tag := "", pkgPath := "scarf/exec", byteOffset := 56 }, { name := "types", type := 26, offset := 8, embedded := false, tag := "", pkgPath := "scarf/exec", byteOffset := 112 }]) 9 136 (.agg #[(.pointer none), (.slice none 0 0), (.slice none 0 0), (.int .i64 0), (.int .i64 0), (.int .i64 0), (.slice none 0 0), (.int .i64 0), (.slice none 0 0)]) := .of (by kernel_rfl) Tryz.underlying227 rfl
instance ty228 : TyIs Tryz.prog 228 (Go.TypeDesc.struct #[{ name := "s", type := 41, offset := 0, embedded := false, tag := "", pkgPath := "scarf/exec", byteOffset := 0 }, { name := "stack", type := 26, offset := 1, embedded := false, tag := "", pkgPath := "scarf/exec", byteOffset := 8 }, { name := "frames", type := 226, offset := 2, embedded := false, tag := "", pkgPath := "scarf/exec", byteOffset := 32 }, { name := "status", type := 165, offset := 3, embedded := false, tag := "", pkgPath := "scarf/exec", byteOffset := 56 }, { name := "types", type := 26, offset := 8, embedded := false, tag := "", pkgPath := "scarf/exec", byteOffset := 112 }]) 9 136 (.agg #[(.pointer none), (.slice none 0 0), (.slice none 0 0), (.int .i64 0), (.int .i64 0), (.int .i64 0), (.slice none 0 0), (.int .i64 0), (.slice none 0 0)]) := .of (by kernel_rfl) Tryz.underlying228 rfl
instance ty229 : TyIs Tryz.prog 229 (Go.TypeDesc.func #[33] #[4] false) 1 8 .nilFunc := .of (by kernel_rfl) Tryz.underlying229 rfl
instance ty230 : TyIs Tryz.prog 230 (Go.TypeDesc.slice 235) 1 24 (.slice none 0 0) := .of (by kernel_rfl) Tryz.underlying230 rfl
instance ty231 : TyIs Tryz.prog 231 (Go.TypeDesc.struct #[{ name := "back", type := 4, offset := 0, embedded := false, tag := "", pkgPath := "scarf/flat", byteOffset := 0 }, { name := "to", type := 3, offset := 1, embedded := false, tag := "", pkgPath := "scarf/flat", byteOffset := 8 }, { name := "keep", type := 3, offset := 2, embedded := false, tag := "", pkgPath := "scarf/flat", byteOffset := 16 }, { name := "base", type := 3, offset := 3, embedded := false, tag := "", pkgPath := "scarf/flat", byteOffset := 24 }, { name := "waits", type := 230, offset := 4, embedded := false, tag := "", pkgPath := "scarf/flat", byteOffset := 32 }]) 5 56 (.agg #[(.bool false), (.int .i64 0), (.int .i64 0), (.int .i64 0), (.slice none 0 0)]) := .of (by kernel_rfl) Tryz.underlying231 rfl
instance ty232 : TyIs Tryz.prog 232 (Go.TypeDesc.struct #[{ name := "back", type := 4, offset := 0, embedded := false, tag := "", pkgPath := "scarf/flat", byteOffset := 0 }, { name := "to", type := 3, offset := 1, embedded := false, tag := "", pkgPath := "scarf/flat", byteOffset := 8 }, { name := "keep", type := 3, offset := 2, embedded := false, tag := "", pkgPath := "scarf/flat", byteOffset := 16 }, { name := "base", type := 3, offset := 3, embedded := false, tag := "", pkgPath := "scarf/flat", byteOffset := 24 }, { name := "waits", type := 230, offset := 4, embedded := false, tag := "", pkgPath := "scarf/flat", byteOffset := 32 }]) 5 56 (.agg #[(.bool false), (.int .i64 0), (.int .i64 0), (.int .i64 0), (.slice none 0 0)]) := .of (by kernel_rfl) Tryz.underlying232 rfl
instance ty233 : TyIs Tryz.prog 233 (Go.TypeDesc.func #[116] #[] false) 1 8 .nilFunc := .of (by kernel_rfl) Tryz.underlying233 rfl
instance ty234 : TyIs Tryz.prog 234 (Go.TypeDesc.struct #[{ name := "at", type := 3, offset := 0, embedded := false, tag := "", pkgPath := "scarf/flat", byteOffset := 0 }, { name := "k", type := 3, offset := 1, embedded := false, tag := "", pkgPath := "scarf/flat", byteOffset := 8 }]) 2 16 (.agg #[(.int .i64 0), (.int .i64 0)]) := .of (by kernel_rfl) Tryz.underlying234 rfl
instance ty235 : TyIs Tryz.prog 235 (Go.TypeDesc.struct #[{ name := "at", type := 3, offset := 0, embedded := false, tag := "", pkgPath := "scarf/flat", byteOffset := 0 }, { name := "k", type := 3, offset := 1, embedded := false, tag := "", pkgPath := "scarf/flat", byteOffset := 8 }]) 2 16 (.agg #[(.int .i64 0), (.int .i64 0)]) := .of (by kernel_rfl) Tryz.underlying235 rfl
instance ty236 : TyIs Tryz.prog 236 (Go.TypeDesc.struct #[{ name := "To", type := 3, offset := 0, embedded := false, tag := "", pkgPath := "", byteOffset := 0 }, { name := "Keep", type := 3, offset := 1, embedded := false, tag := "", pkgPath := "", byteOffset := 8 }, { name := "Base", type := 3, offset := 2, embedded := false, tag := "", pkgPath := "", byteOffset := 16 }, { name := "Back", type := 4, offset := 3, embedded := false, tag := "", pkgPath := "", byteOffset := 24 }]) 4 32 (.agg #[(.int .i64 0), (.int .i64 0), (.int .i64 0), (.bool false)]) := .of (by kernel_rfl) Tryz.underlying236 rfl
instance ty237 : TyIs Tryz.prog 237 (Go.TypeDesc.struct #[{ name := "To", type := 3, offset := 0, embedded := false, tag := "", pkgPath := "", byteOffset := 0 }, { name := "Keep", type := 3, offset := 1, embedded := false, tag := "", pkgPath := "", byteOffset := 8 }, { name := "Base", type := 3, offset := 2, embedded := false, tag := "", pkgPath := "", byteOffset := 16 }, { name := "Back", type := 4, offset := 3, embedded := false, tag := "", pkgPath := "", byteOffset := 24 }]) 4 32 (.agg #[(.int .i64 0), (.int .i64 0), (.int .i64 0), (.bool false)]) := .of (by kernel_rfl) Tryz.underlying237 rfl
instance ty238 : TyIs Tryz.prog 238 (Go.TypeDesc.pointer 240) 1 8 (.pointer none) := .of (by kernel_rfl) Tryz.underlying238 rfl
instance ty239 : TyIs Tryz.prog 239 (Go.TypeDesc.struct #[{ name := "bad", type := 4, offset := 0, embedded := false, tag := "", pkgPath := "scarf/module", byteOffset := 0 }]) 1 1 (.agg #[(.bool false)]) := .of (by kernel_rfl) Tryz.underlying239 rfl
instance ty240 : TyIs Tryz.prog 240 (Go.TypeDesc.struct #[{ name := "bad", type := 4, offset := 0, embedded := false, tag := "", pkgPath := "scarf/module", byteOffset := 0 }]) 1 1 (.agg #[(.bool false)]) := .of (by kernel_rfl) Tryz.underlying240 rfl
instance ty241 : TyIs Tryz.prog 241 (Go.TypeDesc.func #[4] #[] false) 1 8 .nilFunc := .of (by kernel_rfl) Tryz.underlying241 rfl
instance ty242 : TyIs Tryz.prog 242 (Go.TypeDesc.func #[238, 3, 46, 244] #[9] false) 1 8 .nilFunc := .of (by kernel_rfl) Tryz.underlying242 rfl
instance ty243 : TyIs Tryz.prog 243 (Go.TypeDesc.func #[26] #[9] false) 1 8 .nilFunc := .of (by kernel_rfl) Tryz.underlying243 rfl
instance ty244 : TyIs Tryz.prog 244 (Go.TypeDesc.func #[113] #[9] false) 1 8 .nilFunc := .of (by kernel_rfl) Tryz.underlying244 rfl
instance ty245 : TyIs Tryz.prog 245 (Go.TypeDesc.func #[238, 3, 47, 246] #[9] false) 1 8 .nilFunc := .of (by kernel_rfl) Tryz.underlying245 rfl
instance ty246 : TyIs Tryz.prog 246 (Go.TypeDesc.func #[108] #[9] false) 1 8 .nilFunc := .of (by kernel_rfl) Tryz.underlying246 rfl
instance ty247 : TyIs Tryz.prog 247 (Go.TypeDesc.func #[238, 3, 26, 248] #[9] false) 1 8 .nilFunc := .of (by kernel_rfl) Tryz.underlying247 rfl
instance ty248 : TyIs Tryz.prog 248 (Go.TypeDesc.func #[3] #[9] false) 1 8 .nilFunc := .of (by kernel_rfl) Tryz.underlying248 rfl
instance ty249 : TyIs Tryz.prog 249 (Go.TypeDesc.func #[238, 3, 48, 250] #[9] false) 1 8 .nilFunc := .of (by kernel_rfl) Tryz.underlying249 rfl
instance ty250 : TyIs Tryz.prog 250 (Go.TypeDesc.func #[106] #[9] false) 1 8 .nilFunc := .of (by kernel_rfl) Tryz.underlying250 rfl
instance ty251 : TyIs Tryz.prog 251 (Go.TypeDesc.func #[238, 3, 49, 254] #[9] false) 1 8 .nilFunc := .of (by kernel_rfl) Tryz.underlying251 rfl
instance ty252 : TyIs Tryz.prog 252 (Go.TypeDesc.func #[4] #[9] false) 1 8 .nilFunc := .of (by kernel_rfl) Tryz.underlying252 rfl
instance ty253 : TyIs Tryz.prog 253 (Go.TypeDesc.func #[114] #[9] true) 1 8 .nilFunc := .of (by kernel_rfl) Tryz.underlying253 rfl
instance ty254 : TyIs Tryz.prog 254 (Go.TypeDesc.func #[118] #[9] false) 1 8 .nilFunc := .of (by kernel_rfl) Tryz.underlying254 rfl
instance ty255 : TyIs Tryz.prog 255 (Go.TypeDesc.func #[238, 3, 50, 257] #[9] false) 1 8 .nilFunc := .of (by kernel_rfl) Tryz.underlying255 rfl
instance ty256 : TyIs Tryz.prog 256 (Go.TypeDesc.func #[9] #[9] false) 1 8 .nilFunc := .of (by kernel_rfl) Tryz.underlying256 rfl
instance ty257 : TyIs Tryz.prog 257 (Go.TypeDesc.func #[120] #[9] false) 1 8 .nilFunc := .of (by kernel_rfl) Tryz.underlying257 rfl
instance ty258 : TyIs Tryz.prog 258 (Go.TypeDesc.func #[238, 3, 51, 259] #[9] false) 1 8 .nilFunc := .of (by kernel_rfl) Tryz.underlying258 rfl
instance ty259 : TyIs Tryz.prog 259 (Go.TypeDesc.func #[200] #[9] false) 1 8 .nilFunc := .of (by kernel_rfl) Tryz.underlying259 rfl
instance ty260 : TyIs Tryz.prog 260 (Go.TypeDesc.func #[238, 3, 52, 261] #[9] false) 1 8 .nilFunc := .of (by kernel_rfl) Tryz.underlying260 rfl
instance ty261 : TyIs Tryz.prog 261 (Go.TypeDesc.func #[122] #[9] false) 1 8 .nilFunc := .of (by kernel_rfl) Tryz.underlying261 rfl
instance ty262 : TyIs Tryz.prog 262 (Go.TypeDesc.func #[238, 3, 53, 263] #[9] false) 1 8 .nilFunc := .of (by kernel_rfl) Tryz.underlying262 rfl
instance ty263 : TyIs Tryz.prog 263 (Go.TypeDesc.func #[202] #[9] false) 1 8 .nilFunc := .of (by kernel_rfl) Tryz.underlying263 rfl
instance ty264 : TyIs Tryz.prog 264 (Go.TypeDesc.func #[47, 265] #[43] false) 1 8 .nilFunc := .of (by kernel_rfl) Tryz.underlying264 rfl
instance ty265 : TyIs Tryz.prog 265 (Go.TypeDesc.func #[108] #[43] false) 1 8 .nilFunc := .of (by kernel_rfl) Tryz.underlying265 rfl
instance ty266 : TyIs Tryz.prog 266 (Go.TypeDesc.func #[26, 268] #[43] false) 1 8 .nilFunc := .of (by kernel_rfl) Tryz.underlying266 rfl
instance ty267 : TyIs Tryz.prog 267 (Go.TypeDesc.func #[3, 3] #[43] false) 1 8 .nilFunc := .of (by kernel_rfl) Tryz.underlying267 rfl
instance ty268 : TyIs Tryz.prog 268 (Go.TypeDesc.func #[3] #[43] false) 1 8 .nilFunc := .of (by kernel_rfl) Tryz.underlying268 rfl
instance ty269 : TyIs Tryz.prog 269 (Go.TypeDesc.func #[48, 203] #[43] false) 1 8 .nilFunc := .of (by kernel_rfl) Tryz.underlying269 rfl
instance ty270 : TyIs Tryz.prog 270 (Go.TypeDesc.func #[49, 272] #[43] false) 1 8 .nilFunc := .of (by kernel_rfl) Tryz.underlying270 rfl
instance ty271 : TyIs Tryz.prog 271 (Go.TypeDesc.func #[116, 3] #[43] false) 1 8 .nilFunc := .of (by kernel_rfl) Tryz.underlying271 rfl
instance ty272 : TyIs Tryz.prog 272 (Go.TypeDesc.func #[118] #[43] false) 1 8 .nilFunc := .of (by kernel_rfl) Tryz.underlying272 rfl
instance ty273 : TyIs Tryz.prog 273 (Go.TypeDesc.func #[50] #[43] false) 1 8 .nilFunc := .of (by kernel_rfl) Tryz.underlying273 rfl
instance ty274 : TyIs Tryz.prog 274 (Go.TypeDesc.func #[51, 275] #[43] false) 1 8 .nilFunc := .of (by kernel_rfl) Tryz.underlying274 rfl
instance ty275 : TyIs Tryz.prog 275 (Go.TypeDesc.func #[200] #[43] false) 1 8 .nilFunc := .of (by kernel_rfl) Tryz.underlying275 rfl
instance ty276 : TyIs Tryz.prog 276 (Go.TypeDesc.func #[53, 277] #[43] false) 1 8 .nilFunc := .of (by kernel_rfl) Tryz.underlying276 rfl
instance ty277 : TyIs Tryz.prog 277 (Go.TypeDesc.func #[202] #[43] false) 1 8 .nilFunc := .of (by kernel_rfl) Tryz.underlying277 rfl
instance ty278 : TyIs Tryz.prog 278 (Go.TypeDesc.func #[9] #[4] false) 1 8 .nilFunc := .of (by kernel_rfl) Tryz.underlying278 rfl
instance ty279 : TyIs Tryz.prog 279 (Go.TypeDesc.func #[22, 9] #[4] false) 1 8 .nilFunc := .of (by kernel_rfl) Tryz.underlying279 rfl
instance ty280 : TyIs Tryz.prog 280 (Go.TypeDesc.func #[22] #[22] false) 1 8 .nilFunc := .of (by kernel_rfl) Tryz.underlying280 rfl
instance ty281 : TyIs Tryz.prog 281 (Go.TypeDesc.func #[23] #[23] false) 1 8 .nilFunc := .of (by kernel_rfl) Tryz.underlying281 rfl
instance ty282 : TyIs Tryz.prog 282 (Go.TypeDesc.func #[9] #[3, 3] false) 1 8 .nilFunc := .of (by kernel_rfl) Tryz.underlying282 rfl
instance ty283 : TyIs Tryz.prog 283 (Go.TypeDesc.func #[26, 126] #[3] false) 1 8 .nilFunc := .of (by kernel_rfl) Tryz.underlying283 rfl
instance ty285 : TyIs Tryz.prog 285 (Go.TypeDesc.func #[220, 220] #[220, 220] false) 1 8 .nilFunc := .of (by kernel_rfl) Tryz.underlying285 rfl
instance ty286 : TyIs Tryz.prog 286 (Go.TypeDesc.pointer 190) 1 8 (.pointer none) := .of (by kernel_rfl) Tryz.underlying286 rfl
instance ty287 : TyIs Tryz.prog 287 (Go.TypeDesc.struct #[{ name := "f", type := 286, offset := 0, embedded := false, tag := "", pkgPath := "scarf/exec", byteOffset := 0 }, { name := "pc", type := 3, offset := 1, embedded := false, tag := "", pkgPath := "scarf/exec", byteOffset := 8 }, { name := "place", type := 26, offset := 2, embedded := false, tag := "", pkgPath := "scarf/exec", byteOffset := 16 }, { name := "base", type := 3, offset := 3, embedded := false, tag := "", pkgPath := "scarf/exec", byteOffset := 40 }]) 4 48 (.agg #[(.pointer none), (.int .i64 0), (.slice none 0 0), (.int .i64 0)]) := .of (by kernel_rfl) Tryz.underlying287 rfl
instance ty288 : TyIs Tryz.prog 288 (Go.TypeDesc.struct #[{ name := "f", type := 286, offset := 0, embedded := false, tag := "", pkgPath := "scarf/exec", byteOffset := 0 }, { name := "pc", type := 3, offset := 1, embedded := false, tag := "", pkgPath := "scarf/exec", byteOffset := 8 }, { name := "place", type := 26, offset := 2, embedded := false, tag := "", pkgPath := "scarf/exec", byteOffset := 16 }, { name := "base", type := 3, offset := 3, embedded := false, tag := "", pkgPath := "scarf/exec", byteOffset := 40 }]) 4 48 (.agg #[(.pointer none), (.int .i64 0), (.slice none 0 0), (.int .i64 0)]) := .of (by kernel_rfl) Tryz.underlying288 rfl
instance ty289 : TyIs Tryz.prog 289 (Go.TypeDesc.pointer 288) 1 8 (.pointer none) := .of (by kernel_rfl) Tryz.underlying289 rfl
instance ty290 : TyIs Tryz.prog 290 (Go.TypeDesc.func #[289, 183] #[4] false) 1 8 .nilFunc := .of (by kernel_rfl) Tryz.underlying290 rfl
instance ty291 : TyIs Tryz.prog 291 (Go.TypeDesc.func #[116] #[183] false) 1 8 .nilFunc := .of (by kernel_rfl) Tryz.underlying291 rfl
instance ty292 : TyIs Tryz.prog 292 (Go.TypeDesc.func #[3, 3] #[237] false) 1 8 .nilFunc := .of (by kernel_rfl) Tryz.underlying292 rfl
instance ty293 : TyIs Tryz.prog 293 (Go.TypeDesc.func #[116] #[3] false) 1 8 .nilFunc := .of (by kernel_rfl) Tryz.underlying293 rfl
instance ty294 : TyIs Tryz.prog 294 (Go.TypeDesc.func #[238, 46, 244] #[9] false) 1 8 .nilFunc := .of (by kernel_rfl) Tryz.underlying294 rfl
instance ty295 : TyIs Tryz.prog 295 (Go.TypeDesc.func #[238, 26, 248] #[9] false) 1 8 .nilFunc := .of (by kernel_rfl) Tryz.underlying295 rfl
instance ty296 : TyIs Tryz.prog 296 (Go.TypeDesc.func #[238, 47, 246] #[9] false) 1 8 .nilFunc := .of (by kernel_rfl) Tryz.underlying296 rfl
instance ty297 : TyIs Tryz.prog 297 (Go.TypeDesc.func #[238, 48, 250] #[9] false) 1 8 .nilFunc := .of (by kernel_rfl) Tryz.underlying297 rfl
instance ty298 : TyIs Tryz.prog 298 (Go.TypeDesc.func #[238, 49, 254] #[9] false) 1 8 .nilFunc := .of (by kernel_rfl) Tryz.underlying298 rfl
instance ty300 : TyIs Tryz.prog 300 (Go.TypeDesc.func #[3] #[3, 43] false) 1 8 .nilFunc := .of (by kernel_rfl) Tryz.underlying300 rfl
instance ty301 : TyIs Tryz.prog 301 (Go.TypeDesc.func #[114] #[9, 43] false) 1 8 .nilFunc := .of (by kernel_rfl) Tryz.underlying301 rfl
instance ty302 : TyIs Tryz.prog 302 (Go.TypeDesc.func #[238, 50, 257] #[9] false) 1 8 .nilFunc := .of (by kernel_rfl) Tryz.underlying302 rfl
instance ty303 : TyIs Tryz.prog 303 (Go.TypeDesc.func #[238, 51, 259] #[9] false) 1 8 .nilFunc := .of (by kernel_rfl) Tryz.underlying303 rfl
instance ty304 : TyIs Tryz.prog 304 (Go.TypeDesc.func #[238, 52, 261] #[9] false) 1 8 .nilFunc := .of (by kernel_rfl) Tryz.underlying304 rfl
instance ty305 : TyIs Tryz.prog 305 (Go.TypeDesc.func #[238, 53, 263] #[9] false) 1 8 .nilFunc := .of (by kernel_rfl) Tryz.underlying305 rfl
instance ty306 : TyIs Tryz.prog 306 (Go.TypeDesc.map 9 3) 1 8 (.map none) := .of (by kernel_rfl) Tryz.underlying306 rfl
instance ty307 : TyIs Tryz.prog 307 (Go.TypeDesc.func #[50, 308] #[43] false) 1 8 .nilFunc := .of (by kernel_rfl) Tryz.underlying307 rfl
instance ty308 : TyIs Tryz.prog 308 (Go.TypeDesc.func #[120] #[43] false) 1 8 .nilFunc := .of (by kernel_rfl) Tryz.underlying308 rfl
instance ty309 : TyIs Tryz.prog 309 (Go.TypeDesc.func #[3] #[113, 4] false) 1 8 .nilFunc := .of (by kernel_rfl) Tryz.underlying309 rfl
instance ty310 : TyIs Tryz.prog 310 (Go.TypeDesc.func #[113, 122] #[43] false) 1 8 .nilFunc := .of (by kernel_rfl) Tryz.underlying310 rfl
instance ty311 : TyIs Tryz.prog 311 (Go.TypeDesc.func #[278] #[] false) 1 8 .nilFunc := .of (by kernel_rfl) Tryz.underlying311 rfl
instance ty312 : TyIs Tryz.prog 312 (Go.TypeDesc.func #[278] #[] false) 1 8 .nilFunc := .of (by kernel_rfl) Tryz.underlying312 rfl
instance ty313 : TyIs Tryz.prog 313 (Go.TypeDesc.func #[9, 9] #[312] false) 1 8 .nilFunc := .of (by kernel_rfl) Tryz.underlying313 rfl
instance ty314 : TyIs Tryz.prog 314 (Go.TypeDesc.func #[22, 9] #[3] false) 1 8 .nilFunc := .of (by kernel_rfl) Tryz.underlying314 rfl
instance ty315 : TyIs Tryz.prog 315 (Go.TypeDesc.func #[9] #[3] false) 1 8 .nilFunc := .of (by kernel_rfl) Tryz.underlying315 rfl
instance ty317 : TyIs Tryz.prog 317 (Go.TypeDesc.func #[160, 160] #[160, 160] false) 1 8 .nilFunc := .of (by kernel_rfl) Tryz.underlying317 rfl
instance ty318 : TyIs Tryz.prog 318 (Go.TypeDesc.int Go.IntKind.u64) 1 8 (.int .u64 0) := .of (by kernel_rfl) Tryz.underlying318 rfl
instance ty320 : TyIs Tryz.prog 320 (Go.TypeDesc.func #[318, 318] #[318, 318] false) 1 8 .nilFunc := .of (by kernel_rfl) Tryz.underlying320 rfl
instance ty322 : TyIs Tryz.prog 322 (Go.TypeDesc.func #[3] #[3, 3, 3] false) 1 8 .nilFunc := .of (by kernel_rfl) Tryz.underlying322 rfl
instance ty323 : TyIs Tryz.prog 323 (Go.TypeDesc.func #[289, 183, 4] #[4] false) 1 8 .nilFunc := .of (by kernel_rfl) Tryz.underlying323 rfl
instance ty324 : TyIs Tryz.prog 324 (Go.TypeDesc.func #[289, 237] #[4] false) 1 8 .nilFunc := .of (by kernel_rfl) Tryz.underlying324 rfl
instance ty325 : TyIs Tryz.prog 325 (Go.TypeDesc.func #[26] #[] true) 1 8 .nilFunc := .of (by kernel_rfl) Tryz.underlying325 rfl
instance ty326 : TyIs Tryz.prog 326 (Go.TypeDesc.func #[3] #[3, 3] false) 1 8 .nilFunc := .of (by kernel_rfl) Tryz.underlying326 rfl
instance ty327 : TyIs Tryz.prog 327 (Go.TypeDesc.func #[113] #[3] false) 1 8 .nilFunc := .of (by kernel_rfl) Tryz.underlying327 rfl
instance ty328 : TyIs Tryz.prog 328 (Go.TypeDesc.pointer 330) 1 8 (.pointer none) := .of (by kernel_rfl) Tryz.underlying328 rfl
instance ty329 : TyIs Tryz.prog 329 (Go.TypeDesc.struct #[{ name := "addr", type := 328, offset := 0, embedded := false, tag := "", pkgPath := "strings", byteOffset := 0 }, { name := "buf", type := 138, offset := 1, embedded := false, tag := "", pkgPath := "strings", byteOffset := 8 }]) 2 32 (.agg #[(.pointer none), (.slice none 0 0)]) := .of (by kernel_rfl) Tryz.underlying329 rfl
instance ty330 : TyIs Tryz.prog 330 (Go.TypeDesc.struct #[{ name := "addr", type := 328, offset := 0, embedded := false, tag := "", pkgPath := "strings", byteOffset := 0 }, { name := "buf", type := 138, offset := 1, embedded := false, tag := "", pkgPath := "strings", byteOffset := 8 }]) 2 32 (.agg #[(.pointer none), (.slice none 0 0)]) := .of (by kernel_rfl) Tryz.underlying330 rfl
instance ty331 : TyIs Tryz.prog 331 (Go.TypeDesc.interface #[("Error", 335)]) 1 16 .nilIface := .of (by kernel_rfl) Tryz.underlying331 rfl
instance ty332 : TyIs Tryz.prog 332 (Go.TypeDesc.interface #[("Error", 335)]) 1 16 .nilIface := .of (by kernel_rfl) Tryz.underlying332 rfl
instance ty334 : TyIs Tryz.prog 334 (Go.TypeDesc.func #[9] #[3, 332] false) 1 8 .nilFunc := .of (by kernel_rfl) Tryz.underlying334 rfl
instance ty335 : TyIs Tryz.prog 335 (Go.TypeDesc.func #[] #[9] false) 1 8 .nilFunc := .of (by kernel_rfl) Tryz.underlying335 rfl
instance ty337 : TyIs Tryz.prog 337 (Go.TypeDesc.func #[114] #[3, 4] false) 1 8 .nilFunc := .of (by kernel_rfl) Tryz.underlying337 rfl
instance ty338 : TyIs Tryz.prog 338 (Go.TypeDesc.func #[328, 114] #[] false) 1 8 .nilFunc := .of (by kernel_rfl) Tryz.underlying338 rfl
instance ty339 : TyIs Tryz.prog 339 (Go.TypeDesc.func #[5] #[332] false) 1 8 .nilFunc := .of (by kernel_rfl) Tryz.underlying339 rfl
instance ty340 : TyIs Tryz.prog 340 (Go.TypeDesc.pointer 344) 1 8 (.pointer none) := .of (by kernel_rfl) Tryz.underlying340 rfl
instance ty341 : TyIs Tryz.prog 341 (Go.TypeDesc.func #[358] #[26] true) 1 8 .nilFunc := .of (by kernel_rfl) Tryz.underlying341 rfl
instance ty342 : TyIs Tryz.prog 342 (Go.TypeDesc.slice 361) 1 24 (.slice none 0 0) := .of (by kernel_rfl) Tryz.underlying342 rfl
instance ty343 : TyIs Tryz.prog 343 (Go.TypeDesc.struct #[{ name := "Space", type := 169, offset := 0, embedded := true, tag := "", pkgPath := "", byteOffset := 0 }, { name := "locals", type := 26, offset := 6, embedded := false, tag := "", pkgPath := "scarf/valid", byteOffset := 128 }, { name := "stack", type := 26, offset := 7, embedded := false, tag := "", pkgPath := "scarf/valid", byteOffset := 152 }, { name := "frames", type := 342, offset := 8, embedded := false, tag := "", pkgPath := "scarf/valid", byteOffset := 176 }, { name := "e", type := 43, offset := 9, embedded := false, tag := "", pkgPath := "scarf/valid", byteOffset := 200 }]) 10 208 (.agg #[(.slice none 0 0), (.slice none 0 0), (.slice none 0 0), (.slice none 0 0), (.slice none 0 0), (.int .i64 0), (.slice none 0 0), (.slice none 0 0), (.slice none 0 0), (.int .i64 0)]) := .of (by kernel_rfl) Tryz.underlying343 rfl
instance ty344 : TyIs Tryz.prog 344 (Go.TypeDesc.struct #[{ name := "Space", type := 169, offset := 0, embedded := true, tag := "", pkgPath := "", byteOffset := 0 }, { name := "locals", type := 26, offset := 6, embedded := false, tag := "", pkgPath := "scarf/valid", byteOffset := 128 }, { name := "stack", type := 26, offset := 7, embedded := false, tag := "", pkgPath := "scarf/valid", byteOffset := 152 }, { name := "frames", type := 342, offset := 8, embedded := false, tag := "", pkgPath := "scarf/valid", byteOffset := 176 }, { name := "e", type := 43, offset := 9, embedded := false, tag := "", pkgPath := "scarf/valid", byteOffset := 200 }]) 10 208 (.agg #[(.slice none 0 0), (.slice none 0 0), (.slice none 0 0), (.slice none 0 0), (.slice none 0 0), (.int .i64 0), (.slice none 0 0), (.slice none 0 0), (.slice none 0 0), (.int .i64 0)]) := .of (by kernel_rfl) Tryz.underlying344 rfl
instance ty345 : TyIs Tryz.prog 345 (Go.TypeDesc.func #[4, 26, 26] #[] false) 1 8 .nilFunc := .of (by kernel_rfl) Tryz.underlying345 rfl
instance ty346 : TyIs Tryz.prog 346 (Go.TypeDesc.func #[9, 9, 3] #[312] false) 1 8 .nilFunc := .of (by kernel_rfl) Tryz.underlying346 rfl
instance ty347 : TyIs Tryz.prog 347 (Go.TypeDesc.func #[5] #[4] false) 1 8 .nilFunc := .of (by kernel_rfl) Tryz.underlying347 rfl
instance ty348 : TyIs Tryz.prog 348 (Go.TypeDesc.func #[2, 3] #[9] false) 1 8 .nilFunc := .of (by kernel_rfl) Tryz.underlying348 rfl
instance ty349 : TyIs Tryz.prog 349 (Go.TypeDesc.func #[3, 3] #[3, 4] false) 1 8 .nilFunc := .of (by kernel_rfl) Tryz.underlying349 rfl
instance ty351 : TyIs Tryz.prog 351 (Go.TypeDesc.func #[3, 3, 3] #[3, 33, 4] false) 1 8 .nilFunc := .of (by kernel_rfl) Tryz.underlying351 rfl
instance ty352 : TyIs Tryz.prog 352 (Go.TypeDesc.func #[70, 3, 70, 3, 3] #[33] false) 1 8 .nilFunc := .of (by kernel_rfl) Tryz.underlying352 rfl
instance ty353 : TyIs Tryz.prog 353 (Go.TypeDesc.func #[191, 102, 183] #[4] false) 1 8 .nilFunc := .of (by kernel_rfl) Tryz.underlying353 rfl
instance ty354 : TyIs Tryz.prog 354 (Go.TypeDesc.pointer 5) 1 8 (.pointer none) := .of (by kernel_rfl) Tryz.underlying354 rfl
instance ty355 : TyIs Tryz.prog 355 (Go.TypeDesc.func #[114, 3] #[3, 4] false) 1 8 .nilFunc := .of (by kernel_rfl) Tryz.underlying355 rfl
instance ty356 : TyIs Tryz.prog 356 (Go.TypeDesc.func #[328, 3] #[] false) 1 8 .nilFunc := .of (by kernel_rfl) Tryz.underlying356 rfl
instance ty357 : TyIs Tryz.prog 357 (Go.TypeDesc.func #[26] #[9] true) 1 8 .nilFunc := .of (by kernel_rfl) Tryz.underlying357 rfl
instance ty358 : TyIs Tryz.prog 358 (Go.TypeDesc.slice 26) 1 24 (.slice none 0 0) := .of (by kernel_rfl) Tryz.underlying358 rfl
instance ty359 : TyIs Tryz.prog 359 (Go.TypeDesc.func #[26, 3] #[26] false) 1 8 .nilFunc := .of (by kernel_rfl) Tryz.underlying359 rfl
instance ty360 : TyIs Tryz.prog 360 (Go.TypeDesc.struct #[{ name := "loop", type := 4, offset := 0, embedded := false, tag := "", pkgPath := "scarf/valid", byteOffset := 0 }, { name := "from", type := 26, offset := 1, embedded := false, tag := "", pkgPath := "scarf/valid", byteOffset := 8 }, { name := "to", type := 26, offset := 2, embedded := false, tag := "", pkgPath := "scarf/valid", byteOffset := 32 }, { name := "height", type := 3, offset := 3, embedded := false, tag := "", pkgPath := "scarf/valid", byteOffset := 56 }, { name := "open", type := 4, offset := 4, embedded := false, tag := "", pkgPath := "scarf/valid", byteOffset := 64 }]) 5 72 (.agg #[(.bool false), (.slice none 0 0), (.slice none 0 0), (.int .i64 0), (.bool false)]) := .of (by kernel_rfl) Tryz.underlying360 rfl
instance ty361 : TyIs Tryz.prog 361 (Go.TypeDesc.struct #[{ name := "loop", type := 4, offset := 0, embedded := false, tag := "", pkgPath := "scarf/valid", byteOffset := 0 }, { name := "from", type := 26, offset := 1, embedded := false, tag := "", pkgPath := "scarf/valid", byteOffset := 8 }, { name := "to", type := 26, offset := 2, embedded := false, tag := "", pkgPath := "scarf/valid", byteOffset := 32 }, { name := "height", type := 3, offset := 3, embedded := false, tag := "", pkgPath := "scarf/valid", byteOffset := 56 }, { name := "open", type := 4, offset := 4, embedded := false, tag := "", pkgPath := "scarf/valid", byteOffset := 64 }]) 5 72 (.agg #[(.bool false), (.slice none 0 0), (.slice none 0 0), (.int .i64 0), (.bool false)]) := .of (by kernel_rfl) Tryz.underlying361 rfl
instance ty362 : TyIs Tryz.prog 362 (Go.TypeDesc.pointer 361) 1 8 (.pointer none) := .of (by kernel_rfl) Tryz.underlying362 rfl
instance ty363 : TyIs Tryz.prog 363 (Go.TypeDesc.func #[] #[362] false) 1 8 .nilFunc := .of (by kernel_rfl) Tryz.underlying363 rfl
instance ty364 : TyIs Tryz.prog 364 (Go.TypeDesc.func #[26] #[] false) 1 8 .nilFunc := .of (by kernel_rfl) Tryz.underlying364 rfl
instance ty366 : TyIs Tryz.prog 366 (Go.TypeDesc.func #[9] #[21, 3] false) 1 8 .nilFunc := .of (by kernel_rfl) Tryz.underlying366 rfl
instance ty367 : TyIs Tryz.prog 367 (Go.TypeDesc.func #[9, 9] #[3] false) 1 8 .nilFunc := .of (by kernel_rfl) Tryz.underlying367 rfl
instance ty368 : TyIs Tryz.prog 368 (Go.TypeDesc.array 24 5) 24 24 (.agg #[(.int .u8 0), (.int .u8 0), (.int .u8 0), (.int .u8 0), (.int .u8 0), (.int .u8 0), (.int .u8 0), (.int .u8 0), (.int .u8 0), (.int .u8 0), (.int .u8 0), (.int .u8 0), (.int .u8 0), (.int .u8 0), (.int .u8 0), (.int .u8 0), (.int .u8 0), (.int .u8 0), (.int .u8 0), (.int .u8 0), (.int .u8 0), (.int .u8 0), (.int .u8 0), (.int .u8 0)]) := .of (by kernel_rfl) Tryz.underlying368 rfl
instance ty369 : TyIs Tryz.prog 369 (Go.TypeDesc.func #[318] #[3] false) 1 8 .nilFunc := .of (by kernel_rfl) Tryz.underlying369 rfl
instance ty370 : TyIs Tryz.prog 370 (Go.TypeDesc.func #[138, 318] #[] false) 1 8 .nilFunc := .of (by kernel_rfl) Tryz.underlying370 rfl
instance ty372 : TyIs Tryz.prog 372 (Go.TypeDesc.func #[138, 318, 3, 4, 4] #[138, 9] false) 1 8 .nilFunc := .of (by kernel_rfl) Tryz.underlying372 rfl
instance ty373 : TyIs Tryz.prog 373 (Go.TypeDesc.func #[4] #[3] false) 1 8 .nilFunc := .of (by kernel_rfl) Tryz.underlying373 rfl
instance ty374 : TyIs Tryz.prog 374 (Go.TypeDesc.func #[160] #[3] false) 1 8 .nilFunc := .of (by kernel_rfl) Tryz.underlying374 rfl
instance ty375 : TyIs Tryz.prog 375 (Go.TypeDesc.int Go.IntKind.i8) 1 1 (.int .i8 0) := .of (by kernel_rfl) Tryz.underlying375 rfl
instance ty376 : TyIs Tryz.prog 376 (Go.TypeDesc.int Go.IntKind.i16) 1 2 (.int .i16 0) := .of (by kernel_rfl) Tryz.underlying376 rfl
instance ty377 : TyIs Tryz.prog 377 (Go.TypeDesc.func #[3, 3, 3] #[4] false) 1 8 .nilFunc := .of (by kernel_rfl) Tryz.underlying377 rfl
instance ty378 : TyIs Tryz.prog 378 (Go.TypeDesc.func #[3, 3, 3, 3] #[3, 33] false) 1 8 .nilFunc := .of (by kernel_rfl) Tryz.underlying378 rfl
instance ty379 : TyIs Tryz.prog 379 (Go.TypeDesc.func #[3, 3] #[26, 4] false) 1 8 .nilFunc := .of (by kernel_rfl) Tryz.underlying379 rfl
instance ty380 : TyIs Tryz.prog 380 Go.TypeDesc.unsafePointer 1 8 (.pointer none) := .of (by kernel_rfl) Tryz.underlying380 rfl
instance ty381 : TyIs Tryz.prog 381 (Go.TypeDesc.func #[380] #[380] false) 1 8 .nilFunc := .of (by kernel_rfl) Tryz.underlying381 rfl
instance ty382 : TyIs Tryz.prog 382 (Go.TypeDesc.func #[116] #[4] false) 1 8 .nilFunc := .of (by kernel_rfl) Tryz.underlying382 rfl
instance ty383 : TyIs Tryz.prog 383 (Go.TypeDesc.func #[43] #[] false) 1 8 .nilFunc := .of (by kernel_rfl) Tryz.underlying383 rfl
instance ty384 : TyIs Tryz.prog 384 (Go.TypeDesc.func #[209] #[] false) 1 8 .nilFunc := .of (by kernel_rfl) Tryz.underlying384 rfl
instance ty385 : TyIs Tryz.prog 385 (Go.TypeDesc.func #[209] #[] false) 1 8 .nilFunc := .of (by kernel_rfl) Tryz.underlying385 rfl
instance ty386 : TyIs Tryz.prog 386 (Go.TypeDesc.func #[26] #[385] false) 1 8 .nilFunc := .of (by kernel_rfl) Tryz.underlying386 rfl
instance ty387 : TyIs Tryz.prog 387 (Go.TypeDesc.array 20 318) 20 160 (.agg #[(.int .u64 0), (.int .u64 0), (.int .u64 0), (.int .u64 0), (.int .u64 0), (.int .u64 0), (.int .u64 0), (.int .u64 0), (.int .u64 0), (.int .u64 0), (.int .u64 0), (.int .u64 0), (.int .u64 0), (.int .u64 0), (.int .u64 0), (.int .u64 0), (.int .u64 0), (.int .u64 0), (.int .u64 0), (.int .u64 0)]) := .of (by kernel_rfl) Tryz.underlying387 rfl
instance ty388 : TyIs Tryz.prog 388 (Go.TypeDesc.array 65 5) 65 65 (.agg #[(.int .u8 0), (.int .u8 0), (.int .u8 0), (.int .u8 0), (.int .u8 0), (.int .u8 0), (.int .u8 0), (.int .u8 0), (.int .u8 0), (.int .u8 0), (.int .u8 0), (.int .u8 0), (.int .u8 0), (.int .u8 0), (.int .u8 0), (.int .u8 0), (.int .u8 0), (.int .u8 0), (.int .u8 0), (.int .u8 0), (.int .u8 0), (.int .u8 0), (.int .u8 0), (.int .u8 0), (.int .u8 0), (.int .u8 0), (.int .u8 0), (.int .u8 0), (.int .u8 0), (.int .u8 0), (.int .u8 0), (.int .u8 0), (.int .u8 0), (.int .u8 0), (.int .u8 0), (.int .u8 0), (.int .u8 0), (.int .u8 0), (.int .u8 0), (.int .u8 0), (.int .u8 0), (.int .u8 0), (.int .u8 0), (.int .u8 0), (.int .u8 0), (.int .u8 0), (.int .u8 0), (.int .u8 0), (.int .u8 0), (.int .u8 0), (.int .u8 0), (.int .u8 0), (.int .u8 0), (.int .u8 0), (.int .u8 0), (.int .u8 0), (.int .u8 0), (.int .u8 0), (.int .u8 0), (.int .u8 0), (.int .u8 0), (.int .u8 0), (.int .u8 0), (.int .u8 0), (.int .u8 0)]) := .of (by kernel_rfl) Tryz.underlying388 rfl
instance ty389 : TyIs Tryz.prog 389 (Go.TypeDesc.func #[220] #[3] false) 1 8 .nilFunc := .of (by kernel_rfl) Tryz.underlying389 rfl
instance ty390 : TyIs Tryz.prog 390 (Go.TypeDesc.array 32 5) 32 32 (.agg #[(.int .u8 0), (.int .u8 0), (.int .u8 0), (.int .u8 0), (.int .u8 0), (.int .u8 0), (.int .u8 0), (.int .u8 0), (.int .u8 0), (.int .u8 0), (.int .u8 0), (.int .u8 0), (.int .u8 0), (.int .u8 0), (.int .u8 0), (.int .u8 0), (.int .u8 0), (.int .u8 0), (.int .u8 0), (.int .u8 0), (.int .u8 0), (.int .u8 0), (.int .u8 0), (.int .u8 0), (.int .u8 0), (.int .u8 0), (.int .u8 0), (.int .u8 0), (.int .u8 0), (.int .u8 0), (.int .u8 0), (.int .u8 0)]) := .of (by kernel_rfl) Tryz.underlying390 rfl
instance ty391 : TyIs Tryz.prog 391 (Go.TypeDesc.array 64 5) 64 64 (.agg #[(.int .u8 0), (.int .u8 0), (.int .u8 0), (.int .u8 0), (.int .u8 0), (.int .u8 0), (.int .u8 0), (.int .u8 0), (.int .u8 0), (.int .u8 0), (.int .u8 0), (.int .u8 0), (.int .u8 0), (.int .u8 0), (.int .u8 0), (.int .u8 0), (.int .u8 0), (.int .u8 0), (.int .u8 0), (.int .u8 0), (.int .u8 0), (.int .u8 0), (.int .u8 0), (.int .u8 0), (.int .u8 0), (.int .u8 0), (.int .u8 0), (.int .u8 0), (.int .u8 0), (.int .u8 0), (.int .u8 0), (.int .u8 0), (.int .u8 0), (.int .u8 0), (.int .u8 0), (.int .u8 0), (.int .u8 0), (.int .u8 0), (.int .u8 0), (.int .u8 0), (.int .u8 0), (.int .u8 0), (.int .u8 0), (.int .u8 0), (.int .u8 0), (.int .u8 0), (.int .u8 0), (.int .u8 0), (.int .u8 0), (.int .u8 0), (.int .u8 0), (.int .u8 0), (.int .u8 0), (.int .u8 0), (.int .u8 0), (.int .u8 0), (.int .u8 0), (.int .u8 0), (.int .u8 0), (.int .u8 0), (.int .u8 0), (.int .u8 0), (.int .u8 0), (.int .u8 0)]) := .of (by kernel_rfl) Tryz.underlying391 rfl
instance ty393 : TyIs Tryz.prog 393 (Go.TypeDesc.func #[3] #[26, 26] false) 1 8 .nilFunc := .of (by kernel_rfl) Tryz.underlying393 rfl
instance ty394 : TyIs Tryz.prog 394 (Go.TypeDesc.func #[3] #[26, 4] false) 1 8 .nilFunc := .of (by kernel_rfl) Tryz.underlying394 rfl
instance ty395 : TyIs Tryz.prog 395 (Go.TypeDesc.func #[113] #[] false) 1 8 .nilFunc := .of (by kernel_rfl) Tryz.underlying395 rfl
instance ty396 : TyIs Tryz.prog 396 (Go.TypeDesc.array 256 5) 256 256 (.agg #[(.int .u8 0), (.int .u8 0), (.int .u8 0), (.int .u8 0), (.int .u8 0), (.int .u8 0), (.int .u8 0), (.int .u8 0), (.int .u8 0), (.int .u8 0), (.int .u8 0), (.int .u8 0), (.int .u8 0), (.int .u8 0), (.int .u8 0), (.int .u8 0), (.int .u8 0), (.int .u8 0), (.int .u8 0), (.int .u8 0), (.int .u8 0), (.int .u8 0), (.int .u8 0), (.int .u8 0), (.int .u8 0), (.int .u8 0), (.int .u8 0), (.int .u8 0), (.int .u8 0), (.int .u8 0), (.int .u8 0), (.int .u8 0), (.int .u8 0), (.int .u8 0), (.int .u8 0), (.int .u8 0), (.int .u8 0), (.int .u8 0), (.int .u8 0), (.int .u8 0), (.int .u8 0), (.int .u8 0), (.int .u8 0), (.int .u8 0), (.int .u8 0), (.int .u8 0), (.int .u8 0), (.int .u8 0), (.int .u8 0), (.int .u8 0), (.int .u8 0), (.int .u8 0), (.int .u8 0), (.int .u8 0), (.int .u8 0), (.int .u8 0), (.int .u8 0), (.int .u8 0), (.int .u8 0), (.int .u8 0), (.int .u8 0), (.int .u8 0), (.int .u8 0), (.int .u8 0), (.int .u8 0), (.int .u8 0), (.int .u8 0), (.int .u8 0), (.int .u8 0), (.int .u8 0), (.int .u8 0), (.int .u8 0), (.int .u8 0), (.int .u8 0), (.int .u8 0), (.int .u8 0), (.int .u8 0), (.int .u8 0), (.int .u8 0), (.int .u8 0), (.int .u8 0), (.int .u8 0), (.int .u8 0), (.int .u8 0), (.int .u8 0), (.int .u8 0), (.int .u8 0), (.int .u8 0), (.int .u8 0), (.int .u8 0), (.int .u8 0), (.int .u8 0), (.int .u8 0), (.int .u8 0), (.int .u8 0), (.int .u8 0), (.int .u8 0), (.int .u8 0), (.int .u8 0), (.int .u8 0), (.int .u8 0), (.int .u8 0), (.int .u8 0), (.int .u8 0), (.int .u8 0), (.int .u8 0), (.int .u8 0), (.int .u8 0), (.int .u8 0), (.int .u8 0), (.int .u8 0), (.int .u8 0), (.int .u8 0), (.int .u8 0), (.int .u8 0), (.int .u8 0), (.int .u8 0), (.int .u8 0), (.int .u8 0), (.int .u8 0), (.int .u8 0), (.int .u8 0), (.int .u8 0), (.int .u8 0), (.int .u8 0), (.int .u8 0), (.int .u8 0), (.int .u8 0), (.int .u8 0), (.int .u8 0), (.int .u8 0), (.int .u8 0), (.int .u8 0), (.int .u8 0), (.int .u8 0), (.int .u8 0), (.int .u8 0), (.int .u8 0), (.int .u8 0), (.int .u8 0), (.int .u8 0), (.int .u8 0), (.int .u8 0), (.int .u8 0), (.int .u8 0), (.int .u8 0), (.int .u8 0), (.int .u8 0), (.int .u8 0), (.int .u8 0), (.int .u8 0), (.int .u8 0), (.int .u8 0), (.int .u8 0), (.int .u8 0), (.int .u8 0), (.int .u8 0), (.int .u8 0), (.int .u8 0), (.int .u8 0), (.int .u8 0), (.int .u8 0), (.int .u8 0), (.int .u8 0), (.int .u8 0), (.int .u8 0), (.int .u8 0), (.int .u8 0), (.int .u8 0), (.int .u8 0), (.int .u8 0), (.int .u8 0), (.int .u8 0), (.int .u8 0), (.int .u8 0), (.int .u8 0), (.int .u8 0), (.int .u8 0), (.int .u8 0), (.int .u8 0), (.int .u8 0), (.int .u8 0), (.int .u8 0), (.int .u8 0), (.int .u8 0), (.int .u8 0), (.int .u8 0), (.int .u8 0), (.int .u8 0), (.int .u8 0), (.int .u8 0), (.int .u8 0), (.int .u8 0), (.int .u8 0), (.int .u8 0), (.int .u8 0), (.int .u8 0), (.int .u8 0), (.int .u8 0), (.int .u8 0), (.int .u8 0), (.int .u8 0), (.int .u8 0), (.int .u8 0), (.int .u8 0), (.int .u8 0), (.int .u8 0), (.int .u8 0), (.int .u8 0), (.int .u8 0), (.int .u8 0), (.int .u8 0), (.int .u8 0), (.int .u8 0), (.int .u8 0), (.int .u8 0), (.int .u8 0), (.int .u8 0), (.int .u8 0), (.int .u8 0), (.int .u8 0), (.int .u8 0), (.int .u8 0), (.int .u8 0), (.int .u8 0), (.int .u8 0), (.int .u8 0), (.int .u8 0), (.int .u8 0), (.int .u8 0), (.int .u8 0), (.int .u8 0), (.int .u8 0), (.int .u8 0), (.int .u8 0), (.int .u8 0), (.int .u8 0), (.int .u8 0), (.int .u8 0), (.int .u8 0), (.int .u8 0), (.int .u8 0), (.int .u8 0), (.int .u8 0), (.int .u8 0), (.int .u8 0), (.int .u8 0), (.int .u8 0), (.int .u8 0), (.int .u8 0), (.int .u8 0), (.int .u8 0), (.int .u8 0), (.int .u8 0), (.int .u8 0), (.int .u8 0)]) := .of (by kernel_rfl) Tryz.underlying396 rfl
instance ty397 : TyIs Tryz.prog 397 (Go.TypeDesc.struct #[{ name := "lo", type := 5, offset := 0, embedded := false, tag := "", pkgPath := "unicode/utf8", byteOffset := 0 }, { name := "hi", type := 5, offset := 1, embedded := false, tag := "", pkgPath := "unicode/utf8", byteOffset := 1 }]) 2 2 (.agg #[(.int .u8 0), (.int .u8 0)]) := .of (by kernel_rfl) Tryz.underlying397 rfl
instance ty398 : TyIs Tryz.prog 398 (Go.TypeDesc.struct #[{ name := "lo", type := 5, offset := 0, embedded := false, tag := "", pkgPath := "unicode/utf8", byteOffset := 0 }, { name := "hi", type := 5, offset := 1, embedded := false, tag := "", pkgPath := "unicode/utf8", byteOffset := 1 }]) 2 2 (.agg #[(.int .u8 0), (.int .u8 0)]) := .of (by kernel_rfl) Tryz.underlying398 rfl
instance ty399 : TyIs Tryz.prog 399 (Go.TypeDesc.array 16 398) 32 32 (.agg #[(.int .u8 0), (.int .u8 0), (.int .u8 0), (.int .u8 0), (.int .u8 0), (.int .u8 0), (.int .u8 0), (.int .u8 0), (.int .u8 0), (.int .u8 0), (.int .u8 0), (.int .u8 0), (.int .u8 0), (.int .u8 0), (.int .u8 0), (.int .u8 0), (.int .u8 0), (.int .u8 0), (.int .u8 0), (.int .u8 0), (.int .u8 0), (.int .u8 0), (.int .u8 0), (.int .u8 0), (.int .u8 0), (.int .u8 0), (.int .u8 0), (.int .u8 0), (.int .u8 0), (.int .u8 0), (.int .u8 0), (.int .u8 0)]) := .of (by kernel_rfl) Tryz.underlying399 rfl
instance ty400 : TyIs Tryz.prog 400 (Go.TypeDesc.func #[9, 5] #[3] false) 1 8 .nilFunc := .of (by kernel_rfl) Tryz.underlying400 rfl
instance ty401 : TyIs Tryz.prog 401 (Go.TypeDesc.func #[] #[26] false) 1 8 .nilFunc := .of (by kernel_rfl) Tryz.underlying401 rfl
instance ty402 : TyIs Tryz.prog 402 (Go.TypeDesc.func #[9] #[160, 160] false) 1 8 .nilFunc := .of (by kernel_rfl) Tryz.underlying402 rfl
instance ty403 : TyIs Tryz.prog 403 (Go.TypeDesc.struct #[{ name := "_interface", type := 17, offset := 0, embedded := false, tag := "", pkgPath := "runtime", byteOffset := 0 }, { name := "concrete", type := 17, offset := 1, embedded := false, tag := "", pkgPath := "runtime", byteOffset := 8 }, { name := "asserted", type := 17, offset := 2, embedded := false, tag := "", pkgPath := "runtime", byteOffset := 16 }, { name := "missingMethod", type := 9, offset := 3, embedded := false, tag := "", pkgPath := "runtime", byteOffset := 24 }]) 4 40 (.agg #[(.pointer none), (.pointer none), (.pointer none), (.string ⟨#[]⟩)]) := .of (by kernel_rfl) Tryz.underlying403 rfl
instance ty404 : TyIs Tryz.prog 404 (Go.TypeDesc.struct #[{ name := "_interface", type := 17, offset := 0, embedded := false, tag := "", pkgPath := "runtime", byteOffset := 0 }, { name := "concrete", type := 17, offset := 1, embedded := false, tag := "", pkgPath := "runtime", byteOffset := 8 }, { name := "asserted", type := 17, offset := 2, embedded := false, tag := "", pkgPath := "runtime", byteOffset := 16 }, { name := "missingMethod", type := 9, offset := 3, embedded := false, tag := "", pkgPath := "runtime", byteOffset := 24 }]) 4 40 (.agg #[(.pointer none), (.pointer none), (.pointer none), (.string ⟨#[]⟩)]) := .of (by kernel_rfl) Tryz.underlying404 rfl
instance ty405 : TyIs Tryz.prog 405 (Go.TypeDesc.array 0 16) 0 0 (.agg #[]) := .of (by kernel_rfl) Tryz.underlying405 rfl
instance ty406 : TyIs Tryz.prog 406 (Go.TypeDesc.struct #[{ name := "_", type := 405, offset := 0, embedded := false, tag := "", pkgPath := "runtime", byteOffset := 0 }]) 0 0 (.agg #[]) := .of (by kernel_rfl) Tryz.underlying406 rfl
instance ty407 : TyIs Tryz.prog 407 (Go.TypeDesc.struct #[{ name := "_", type := 405, offset := 0, embedded := false, tag := "", pkgPath := "runtime", byteOffset := 0 }]) 0 0 (.agg #[]) := .of (by kernel_rfl) Tryz.underlying407 rfl
instance ty408 : TyIs Tryz.prog 408 (Go.TypeDesc.int Go.IntKind.u8) 1 1 (.int .u8 0) := .of (by kernel_rfl) Tryz.underlying408 rfl
instance ty409 : TyIs Tryz.prog 409 (Go.TypeDesc.int Go.IntKind.u8) 1 1 (.int .u8 0) := .of (by kernel_rfl) Tryz.underlying409 rfl
instance ty410 : TyIs Tryz.prog 410 (Go.TypeDesc.func #[380, 380] #[4] false) 1 8 .nilFunc := .of (by kernel_rfl) Tryz.underlying410 rfl
instance ty411 : TyIs Tryz.prog 411 (Go.TypeDesc.int Go.IntKind.i32) 1 4 (.int .i32 0) := .of (by kernel_rfl) Tryz.underlying411 rfl
instance ty412 : TyIs Tryz.prog 412 (Go.TypeDesc.int Go.IntKind.i32) 1 4 (.int .i32 0) := .of (by kernel_rfl) Tryz.underlying412 rfl
instance ty413 : TyIs Tryz.prog 413 (Go.TypeDesc.struct #[{ name := "Size_", type := 12, offset := 0, embedded := false, tag := "", pkgPath := "", byteOffset := 0 }, { name := "PtrBytes", type := 12, offset := 1, embedded := false, tag := "", pkgPath := "", byteOffset := 8 }, { name := "Hash", type := 160, offset := 2, embedded := false, tag := "", pkgPath := "", byteOffset := 16 }, { name := "TFlag", type := 408, offset := 3, embedded := false, tag := "", pkgPath := "", byteOffset := 20 }, { name := "Align_", type := 5, offset := 4, embedded := false, tag := "", pkgPath := "", byteOffset := 21 }, { name := "FieldAlign_", type := 5, offset := 5, embedded := false, tag := "", pkgPath := "", byteOffset := 22 }, { name := "Kind_", type := 409, offset := 6, embedded := false, tag := "", pkgPath := "", byteOffset := 23 }, { name := "Equal", type := 410, offset := 7, embedded := false, tag := "", pkgPath := "", byteOffset := 24 }, { name := "GCData", type := 354, offset := 8, embedded := false, tag := "", pkgPath := "", byteOffset := 32 }, { name := "Str", type := 411, offset := 9, embedded := false, tag := "", pkgPath := "", byteOffset := 40 }, { name := "PtrToThis", type := 412, offset := 10, embedded := false, tag := "", pkgPath := "", byteOffset := 44 }]) 11 48 (.agg #[(.int .u64 0), (.int .u64 0), (.int .u32 0), (.int .u8 0), (.int .u8 0), (.int .u8 0), (.int .u8 0), .nilFunc, (.pointer none), (.int .i32 0), (.int .i32 0)]) := .of (by kernel_rfl) Tryz.underlying413 rfl
instance ty414 : TyIs Tryz.prog 414 (Go.TypeDesc.struct #[{ name := "Size_", type := 12, offset := 0, embedded := false, tag := "", pkgPath := "", byteOffset := 0 }, { name := "PtrBytes", type := 12, offset := 1, embedded := false, tag := "", pkgPath := "", byteOffset := 8 }, { name := "Hash", type := 160, offset := 2, embedded := false, tag := "", pkgPath := "", byteOffset := 16 }, { name := "TFlag", type := 408, offset := 3, embedded := false, tag := "", pkgPath := "", byteOffset := 20 }, { name := "Align_", type := 5, offset := 4, embedded := false, tag := "", pkgPath := "", byteOffset := 21 }, { name := "FieldAlign_", type := 5, offset := 5, embedded := false, tag := "", pkgPath := "", byteOffset := 22 }, { name := "Kind_", type := 409, offset := 6, embedded := false, tag := "", pkgPath := "", byteOffset := 23 }, { name := "Equal", type := 410, offset := 7, embedded := false, tag := "", pkgPath := "", byteOffset := 24 }, { name := "GCData", type := 354, offset := 8, embedded := false, tag := "", pkgPath := "", byteOffset := 32 }, { name := "Str", type := 411, offset := 9, embedded := false, tag := "", pkgPath := "", byteOffset := 40 }, { name := "PtrToThis", type := 412, offset := 10, embedded := false, tag := "", pkgPath := "", byteOffset := 44 }]) 11 48 (.agg #[(.int .u64 0), (.int .u64 0), (.int .u32 0), (.int .u8 0), (.int .u8 0), (.int .u8 0), (.int .u8 0), .nilFunc, (.pointer none), (.int .i32 0), (.int .i32 0)]) := .of (by kernel_rfl) Tryz.underlying414 rfl
instance ty415 : TyIs Tryz.prog 415 (Go.TypeDesc.func #[3, 3] #[60] false) 1 8 .nilFunc := .of (by kernel_rfl) Tryz.underlying415 rfl
instance fn2 : FnIs Tryz.prog 2 := .of Tryz.func2 rfl rfl
instance fn3 : FnIs Tryz.prog 3 := .of Tryz.func3 rfl rfl
instance fn4 : FnIs Tryz.prog 4 := .of Tryz.func4 rfl rfl
instance fn5 : FnIs Tryz.prog 5 := .of Tryz.func5 rfl rfl
instance fn6 : FnIs Tryz.prog 6 := .of Tryz.func6 rfl rfl
instance fn7 : FnIs Tryz.prog 7 := .of Tryz.func7 rfl rfl
instance fn8 : FnIs Tryz.prog 8 := .of Tryz.func8 rfl rfl
instance fn9 : FnIs Tryz.prog 9 := .of Tryz.func9 rfl rfl
instance fn10 : FnIs Tryz.prog 10 := .of Tryz.func10 rfl rfl
instance fn11 : FnIs Tryz.prog 11 := .of Tryz.func11 rfl rfl
instance fn12 : FnIs Tryz.prog 12 := .of Tryz.func12 rfl rfl
instance fn13 : FnIs Tryz.prog 13 := .of Tryz.func13 rfl rfl
instance fn14 : FnIs Tryz.prog 14 := .of Tryz.func14 rfl rfl
instance fn15 : FnIs Tryz.prog 15 := .of Tryz.func15 rfl rfl
instance fn16 : FnIs Tryz.prog 16 := .of Tryz.func16 rfl rfl
instance fn17 : FnIs Tryz.prog 17 := .of Tryz.func17 rfl rfl
instance fn18 : FnIs Tryz.prog 18 := .of Tryz.func18 rfl rfl
instance fn19 : FnIs Tryz.prog 19 := .of Tryz.func19 rfl rfl
instance fn20 : FnIs Tryz.prog 20 := .of Tryz.func20 rfl rfl
instance fn21 : FnIs Tryz.prog 21 := .of Tryz.func21 rfl rfl
instance fn22 : FnIs Tryz.prog 22 := .of Tryz.func22 rfl rfl
instance fn23 : FnIs Tryz.prog 23 := .of Tryz.func23 rfl rfl
instance fn24 : FnIs Tryz.prog 24 := .of Tryz.func24 rfl rfl
instance fn25 : FnIs Tryz.prog 25 := .of Tryz.func25 rfl rfl
instance fn26 : FnIs Tryz.prog 26 := .of Tryz.func26 rfl rfl
instance fn27 : FnIs Tryz.prog 27 := .of Tryz.func27 rfl rfl
instance fn28 : FnIs Tryz.prog 28 := .of Tryz.func28 rfl rfl
instance fn29 : FnIs Tryz.prog 29 := .of Tryz.func29 rfl rfl
instance fn30 : FnIs Tryz.prog 30 := .of Tryz.func30 rfl rfl
instance fn31 : FnIs Tryz.prog 31 := .of Tryz.func31 rfl rfl
instance fn32 : FnIs Tryz.prog 32 := .of Tryz.func32 rfl rfl
instance fn33 : FnIs Tryz.prog 33 := .of Tryz.func33 rfl rfl
instance fn34 : FnIs Tryz.prog 34 := .of Tryz.func34 rfl rfl
instance fn35 : FnIs Tryz.prog 35 := .of Tryz.func35 rfl rfl
instance fn36 : FnIs Tryz.prog 36 := .of Tryz.func36 rfl rfl
instance fn37 : FnIs Tryz.prog 37 := .of Tryz.func37 rfl rfl
instance fn38 : FnIs Tryz.prog 38 := .of Tryz.func38 rfl rfl
instance fn39 : FnIs Tryz.prog 39 := .of Tryz.func39 rfl rfl
instance fn40 : FnIs Tryz.prog 40 := .of Tryz.func40 rfl rfl
instance fn41 : FnIs Tryz.prog 41 := .of Tryz.func41 rfl rfl
instance fn42 : FnIs Tryz.prog 42 := .of Tryz.func42 rfl rfl
instance fn43 : FnIs Tryz.prog 43 := .of Tryz.func43 rfl rfl
instance fn44 : FnIs Tryz.prog 44 := .of Tryz.func44 rfl rfl
instance fn45 : FnIs Tryz.prog 45 := .of Tryz.func45 rfl rfl
instance fn46 : FnIs Tryz.prog 46 := .of Tryz.func46 rfl rfl
instance fn47 : FnIs Tryz.prog 47 := .of Tryz.func47 rfl rfl
instance fn48 : FnIs Tryz.prog 48 := .of Tryz.func48 rfl rfl
instance fn49 : FnIs Tryz.prog 49 := .of Tryz.func49 rfl rfl
instance fn50 : FnIs Tryz.prog 50 := .of Tryz.func50 rfl rfl
instance fn51 : FnIs Tryz.prog 51 := .of Tryz.func51 rfl rfl
instance fn52 : FnIs Tryz.prog 52 := .of Tryz.func52 rfl rfl
instance fn53 : FnIs Tryz.prog 53 := .of Tryz.func53 rfl rfl
instance fn54 : FnIs Tryz.prog 54 := .of Tryz.func54 rfl rfl
instance fn55 : FnIs Tryz.prog 55 := .of Tryz.func55 rfl rfl
instance fn56 : FnIs Tryz.prog 56 := .of Tryz.func56 rfl rfl
instance fn57 : FnIs Tryz.prog 57 := .of Tryz.func57 rfl rfl
instance fn58 : FnIs Tryz.prog 58 := .of Tryz.func58 rfl rfl
instance fn59 : FnIs Tryz.prog 59 := .of Tryz.func59 rfl rfl
instance fn60 : FnIs Tryz.prog 60 := .of Tryz.func60 rfl rfl
instance fn61 : FnIs Tryz.prog 61 := .of Tryz.func61 rfl rfl
instance fn62 : FnIs Tryz.prog 62 := .of Tryz.func62 rfl rfl
instance fn63 : FnIs Tryz.prog 63 := .of Tryz.func63 rfl rfl
instance fn64 : FnIs Tryz.prog 64 := .of Tryz.func64 rfl rfl
instance fn65 : FnIs Tryz.prog 65 := .of Tryz.func65 rfl rfl
instance fn66 : FnIs Tryz.prog 66 := .of Tryz.func66 rfl rfl
instance fn67 : FnIs Tryz.prog 67 := .of Tryz.func67 rfl rfl
instance fn68 : FnIs Tryz.prog 68 := .of Tryz.func68 rfl rfl
instance fn69 : FnIs Tryz.prog 69 := .of Tryz.func69 rfl rfl
instance fn70 : FnIs Tryz.prog 70 := .of Tryz.func70 rfl rfl
instance fn71 : FnIs Tryz.prog 71 := .of Tryz.func71 rfl rfl
instance fn72 : FnIs Tryz.prog 72 := .of Tryz.func72 rfl rfl
instance fn73 : FnIs Tryz.prog 73 := .of Tryz.func73 rfl rfl
instance fn74 : FnIs Tryz.prog 74 := .of Tryz.func74 rfl rfl
instance fn75 : FnIs Tryz.prog 75 := .of Tryz.func75 rfl rfl
instance fn76 : FnIs Tryz.prog 76 := .of Tryz.func76 rfl rfl
instance fn77 : FnIs Tryz.prog 77 := .of Tryz.func77 rfl rfl
instance fn78 : FnIs Tryz.prog 78 := .of Tryz.func78 rfl rfl
instance fn79 : FnIs Tryz.prog 79 := .of Tryz.func79 rfl rfl
instance fn80 : FnIs Tryz.prog 80 := .of Tryz.func80 rfl rfl
instance fn81 : FnIs Tryz.prog 81 := .of Tryz.func81 rfl rfl
instance fn82 : FnIs Tryz.prog 82 := .of Tryz.func82 rfl rfl
instance fn83 : FnIs Tryz.prog 83 := .of Tryz.func83 rfl rfl
instance fn84 : FnIs Tryz.prog 84 := .of Tryz.func84 rfl rfl
instance fn85 : FnIs Tryz.prog 85 := .of Tryz.func85 rfl rfl
instance fn86 : FnIs Tryz.prog 86 := .of Tryz.func86 rfl rfl
instance fn87 : FnIs Tryz.prog 87 := .of Tryz.func87 rfl rfl
instance fn88 : FnIs Tryz.prog 88 := .of Tryz.func88 rfl rfl
instance fn89 : FnIs Tryz.prog 89 := .of Tryz.func89 rfl rfl
instance fn90 : FnIs Tryz.prog 90 := .of Tryz.func90 rfl rfl
instance fn91 : FnIs Tryz.prog 91 := .of Tryz.func91 rfl rfl
instance fn92 : FnIs Tryz.prog 92 := .of Tryz.func92 rfl rfl
instance fn93 : FnIs Tryz.prog 93 := .of Tryz.func93 rfl rfl
instance fn94 : FnIs Tryz.prog 94 := .of Tryz.func94 rfl rfl
instance fn95 : FnIs Tryz.prog 95 := .of Tryz.func95 rfl rfl
instance fn96 : FnIs Tryz.prog 96 := .of Tryz.func96 rfl rfl
instance fn97 : FnIs Tryz.prog 97 := .of Tryz.func97 rfl rfl
instance fn98 : FnIs Tryz.prog 98 := .of Tryz.func98 rfl rfl
instance fn99 : FnIs Tryz.prog 99 := .of Tryz.func99 rfl rfl
instance fn100 : FnIs Tryz.prog 100 := .of Tryz.func100 rfl rfl
instance fn101 : FnIs Tryz.prog 101 := .of Tryz.func101 rfl rfl
instance fn102 : FnIs Tryz.prog 102 := .of Tryz.func102 rfl rfl
instance fn103 : FnIs Tryz.prog 103 := .of Tryz.func103 rfl rfl
instance fn104 : FnIs Tryz.prog 104 := .of Tryz.func104 rfl rfl
instance fn105 : FnIs Tryz.prog 105 := .of Tryz.func105 rfl rfl
instance fn106 : FnIs Tryz.prog 106 := .of Tryz.func106 rfl rfl
instance fn107 : FnIs Tryz.prog 107 := .of Tryz.func107 rfl rfl
instance fn108 : FnIs Tryz.prog 108 := .of Tryz.func108 rfl rfl
instance fn109 : FnIs Tryz.prog 109 := .of Tryz.func109 rfl rfl
instance fn110 : FnIs Tryz.prog 110 := .of Tryz.func110 rfl rfl
instance fn111 : FnIs Tryz.prog 111 := .of Tryz.func111 rfl rfl
instance fn112 : FnIs Tryz.prog 112 := .of Tryz.func112 rfl rfl
instance fn113 : FnIs Tryz.prog 113 := .of Tryz.func113 rfl rfl
instance fn114 : FnIs Tryz.prog 114 := .of Tryz.func114 rfl rfl
instance fn115 : FnIs Tryz.prog 115 := .of Tryz.func115 rfl rfl
instance fn116 : FnIs Tryz.prog 116 := .of Tryz.func116 rfl rfl
instance fn117 : FnIs Tryz.prog 117 := .of Tryz.func117 rfl rfl
instance fn118 : FnIs Tryz.prog 118 := .of Tryz.func118 rfl rfl
instance fn119 : FnIs Tryz.prog 119 := .of Tryz.func119 rfl rfl
instance fn120 : FnIs Tryz.prog 120 := .of Tryz.func120 rfl rfl
instance fn121 : FnIs Tryz.prog 121 := .of Tryz.func121 rfl rfl
instance fn122 : FnIs Tryz.prog 122 := .of Tryz.func122 rfl rfl
instance fn123 : FnIs Tryz.prog 123 := .of Tryz.func123 rfl rfl
instance fn124 : FnIs Tryz.prog 124 := .of Tryz.func124 rfl rfl
instance fn125 : FnIs Tryz.prog 125 := .of Tryz.func125 rfl rfl
instance fn126 : FnIs Tryz.prog 126 := .of Tryz.func126 rfl rfl
instance fn127 : FnIs Tryz.prog 127 := .of Tryz.func127 rfl rfl
instance fn128 : FnIs Tryz.prog 128 := .of Tryz.func128 rfl rfl
instance fn129 : FnIs Tryz.prog 129 := .of Tryz.func129 rfl rfl
instance fn130 : FnIs Tryz.prog 130 := .of Tryz.func130 rfl rfl
instance fn131 : FnIs Tryz.prog 131 := .of Tryz.func131 rfl rfl
instance fn132 : FnIs Tryz.prog 132 := .of Tryz.func132 rfl rfl
instance fn133 : FnIs Tryz.prog 133 := .of Tryz.func133 rfl rfl
instance fn134 : FnIs Tryz.prog 134 := .of Tryz.func134 rfl rfl
instance fn135 : FnIs Tryz.prog 135 := .of Tryz.func135 rfl rfl
instance fn136 : FnIs Tryz.prog 136 := .of Tryz.func136 rfl rfl
instance fn137 : FnIs Tryz.prog 137 := .of Tryz.func137 rfl rfl
instance fn138 : FnIs Tryz.prog 138 := .of Tryz.func138 rfl rfl
instance fn139 : FnIs Tryz.prog 139 := .of Tryz.func139 rfl rfl
instance fn140 : FnIs Tryz.prog 140 := .of Tryz.func140 rfl rfl
instance fn141 : FnIs Tryz.prog 141 := .of Tryz.func141 rfl rfl
instance fn142 : FnIs Tryz.prog 142 := .of Tryz.func142 rfl rfl
instance fn143 : FnIs Tryz.prog 143 := .of Tryz.func143 rfl rfl
instance fn144 : FnIs Tryz.prog 144 := .of Tryz.func144 rfl rfl
instance fn145 : FnIs Tryz.prog 145 := .of Tryz.func145 rfl rfl
instance fn146 : FnIs Tryz.prog 146 := .of Tryz.func146 rfl rfl
instance fn147 : FnIs Tryz.prog 147 := .of Tryz.func147 rfl rfl
instance fn148 : FnIs Tryz.prog 148 := .of Tryz.func148 rfl rfl
instance fn149 : FnIs Tryz.prog 149 := .of Tryz.func149 rfl rfl
instance fn150 : FnIs Tryz.prog 150 := .of Tryz.func150 rfl rfl
instance fn151 : FnIs Tryz.prog 151 := .of Tryz.func151 rfl rfl
instance fn152 : FnIs Tryz.prog 152 := .of Tryz.func152 rfl rfl
instance fn153 : FnIs Tryz.prog 153 := .of Tryz.func153 rfl rfl
instance fn154 : FnIs Tryz.prog 154 := .of Tryz.func154 rfl rfl
instance fn155 : FnIs Tryz.prog 155 := .of Tryz.func155 rfl rfl
instance fn156 : FnIs Tryz.prog 156 := .of Tryz.func156 rfl rfl
instance fn157 : FnIs Tryz.prog 157 := .of Tryz.func157 rfl rfl
instance fn158 : FnIs Tryz.prog 158 := .of Tryz.func158 rfl rfl
instance fn159 : FnIs Tryz.prog 159 := .of Tryz.func159 rfl rfl
instance fn160 : FnIs Tryz.prog 160 := .of Tryz.func160 rfl rfl
instance fn161 : FnIs Tryz.prog 161 := .of Tryz.func161 rfl rfl
instance fn162 : FnIs Tryz.prog 162 := .of Tryz.func162 rfl rfl
instance fn163 : FnIs Tryz.prog 163 := .of Tryz.func163 rfl rfl
instance fn164 : FnIs Tryz.prog 164 := .of Tryz.func164 rfl rfl
instance fn165 : FnIs Tryz.prog 165 := .of Tryz.func165 rfl rfl
instance fn166 : FnIs Tryz.prog 166 := .of Tryz.func166 rfl rfl
instance fn167 : FnIs Tryz.prog 167 := .of Tryz.func167 rfl rfl
instance fn168 : FnIs Tryz.prog 168 := .of Tryz.func168 rfl rfl
instance fn169 : FnIs Tryz.prog 169 := .of Tryz.func169 rfl rfl
instance fn170 : FnIs Tryz.prog 170 := .of Tryz.func170 rfl rfl
instance fn171 : FnIs Tryz.prog 171 := .of Tryz.func171 rfl rfl
instance fn172 : FnIs Tryz.prog 172 := .of Tryz.func172 rfl rfl
instance fn173 : FnIs Tryz.prog 173 := .of Tryz.func173 rfl rfl
instance fn174 : FnIs Tryz.prog 174 := .of Tryz.func174 rfl rfl
instance fn175 : FnIs Tryz.prog 175 := .of Tryz.func175 rfl rfl
instance fn176 : FnIs Tryz.prog 176 := .of Tryz.func176 rfl rfl
instance fn177 : FnIs Tryz.prog 177 := .of Tryz.func177 rfl rfl
instance fn178 : FnIs Tryz.prog 178 := .of Tryz.func178 rfl rfl
instance fn179 : FnIs Tryz.prog 179 := .of Tryz.func179 rfl rfl
instance fn180 : FnIs Tryz.prog 180 := .of Tryz.func180 rfl rfl
instance fn181 : FnIs Tryz.prog 181 := .of Tryz.func181 rfl rfl
instance fn182 : FnIs Tryz.prog 182 := .of Tryz.func182 rfl rfl
instance fn183 : FnIs Tryz.prog 183 := .of Tryz.func183 rfl rfl
instance fn184 : FnIs Tryz.prog 184 := .of Tryz.func184 rfl rfl
instance fn185 : FnIs Tryz.prog 185 := .of Tryz.func185 rfl rfl
instance fn186 : FnIs Tryz.prog 186 := .of Tryz.func186 rfl rfl
instance fn187 : FnIs Tryz.prog 187 := .of Tryz.func187 rfl rfl
instance fn188 : FnIs Tryz.prog 188 := .of Tryz.func188 rfl rfl
instance fn189 : FnIs Tryz.prog 189 := .of Tryz.func189 rfl rfl
instance fn190 : FnIs Tryz.prog 190 := .of Tryz.func190 rfl rfl
instance fn191 : FnIs Tryz.prog 191 := .of Tryz.func191 rfl rfl
instance fn192 : FnIs Tryz.prog 192 := .of Tryz.func192 rfl rfl
instance fn193 : FnIs Tryz.prog 193 := .of Tryz.func193 rfl rfl
instance fn194 : FnIs Tryz.prog 194 := .of Tryz.func194 rfl rfl
instance fn195 : FnIs Tryz.prog 195 := .of Tryz.func195 rfl rfl
instance fn196 : FnIs Tryz.prog 196 := .of Tryz.func196 rfl rfl
instance fn197 : FnIs Tryz.prog 197 := .of Tryz.func197 rfl rfl
instance fn198 : FnIs Tryz.prog 198 := .of Tryz.func198 rfl rfl
instance fn199 : FnIs Tryz.prog 199 := .of Tryz.func199 rfl rfl
instance fn200 : FnIs Tryz.prog 200 := .of Tryz.func200 rfl rfl
instance fn201 : FnIs Tryz.prog 201 := .of Tryz.func201 rfl rfl
instance fn202 : FnIs Tryz.prog 202 := .of Tryz.func202 rfl rfl
instance fn203 : FnIs Tryz.prog 203 := .of Tryz.func203 rfl rfl
instance fn204 : FnIs Tryz.prog 204 := .of Tryz.func204 rfl rfl
instance fn205 : FnIs Tryz.prog 205 := .of Tryz.func205 rfl rfl
instance fn206 : FnIs Tryz.prog 206 := .of Tryz.func206 rfl rfl
instance fn207 : FnIs Tryz.prog 207 := .of Tryz.func207 rfl rfl
instance fn208 : FnIs Tryz.prog 208 := .of Tryz.func208 rfl rfl
instance fn209 : FnIs Tryz.prog 209 := .of Tryz.func209 rfl rfl
instance fn210 : FnIs Tryz.prog 210 := .of Tryz.func210 rfl rfl
instance fn211 : FnIs Tryz.prog 211 := .of Tryz.func211 rfl rfl
instance fn212 : FnIs Tryz.prog 212 := .of Tryz.func212 rfl rfl
instance fn213 : FnIs Tryz.prog 213 := .of Tryz.func213 rfl rfl
instance fn214 : FnIs Tryz.prog 214 := .of Tryz.func214 rfl rfl
instance fn215 : FnIs Tryz.prog 215 := .of Tryz.func215 rfl rfl
instance fn216 : FnIs Tryz.prog 216 := .of Tryz.func216 rfl rfl
instance fn217 : FnIs Tryz.prog 217 := .of Tryz.func217 rfl rfl
instance fn218 : FnIs Tryz.prog 218 := .of Tryz.func218 rfl rfl
instance fn219 : FnIs Tryz.prog 219 := .of Tryz.func219 rfl rfl
instance fn220 : FnIs Tryz.prog 220 := .of Tryz.func220 rfl rfl
instance fn221 : FnIs Tryz.prog 221 := .of Tryz.func221 rfl rfl
instance fn222 : FnIs Tryz.prog 222 := .of Tryz.func222 rfl rfl
instance fn223 : FnIs Tryz.prog 223 := .of Tryz.func223 rfl rfl
instance fn224 : FnIs Tryz.prog 224 := .of Tryz.func224 rfl rfl
instance fn225 : FnIs Tryz.prog 225 := .of Tryz.func225 rfl rfl
instance fn226 : FnIs Tryz.prog 226 := .of Tryz.func226 rfl rfl
instance fn227 : FnIs Tryz.prog 227 := .of Tryz.func227 rfl rfl
instance fn228 : FnIs Tryz.prog 228 := .of Tryz.func228 rfl rfl
instance fn229 : FnIs Tryz.prog 229 := .of Tryz.func229 rfl rfl
instance fn230 : FnIs Tryz.prog 230 := .of Tryz.func230 rfl rfl
instance fn231 : FnIs Tryz.prog 231 := .of Tryz.func231 rfl rfl
instance fn232 : FnIs Tryz.prog 232 := .of Tryz.func232 rfl rfl
instance fn233 : FnIs Tryz.prog 233 := .of Tryz.func233 rfl rfl
instance fn234 : FnIs Tryz.prog 234 := .of Tryz.func234 rfl rfl
instance fn235 : FnIs Tryz.prog 235 := .of Tryz.func235 rfl rfl
instance fn236 : FnIs Tryz.prog 236 := .of Tryz.func236 rfl rfl
instance fn237 : FnIs Tryz.prog 237 := .of Tryz.func237 rfl rfl
instance fn238 : FnIs Tryz.prog 238 := .of Tryz.func238 rfl rfl
instance fn239 : FnIs Tryz.prog 239 := .of Tryz.func239 rfl rfl
instance fn240 : FnIs Tryz.prog 240 := .of Tryz.func240 rfl rfl
instance fn241 : FnIs Tryz.prog 241 := .of Tryz.func241 rfl rfl
instance fn242 : FnIs Tryz.prog 242 := .of Tryz.func242 rfl rfl
instance fn243 : FnIs Tryz.prog 243 := .of Tryz.func243 rfl rfl
instance fn244 : FnIs Tryz.prog 244 := .of Tryz.func244 rfl rfl
instance fn245 : FnIs Tryz.prog 245 := .of Tryz.func245 rfl rfl
instance fn246 : FnIs Tryz.prog 246 := .of Tryz.func246 rfl rfl
instance fn247 : FnIs Tryz.prog 247 := .of Tryz.func247 rfl rfl
instance fn248 : FnIs Tryz.prog 248 := .of Tryz.func248 rfl rfl
instance fn249 : FnIs Tryz.prog 249 := .of Tryz.func249 rfl rfl
instance fn250 : FnIs Tryz.prog 250 := .of Tryz.func250 rfl rfl
instance fn251 : FnIs Tryz.prog 251 := .of Tryz.func251 rfl rfl
instance fn252 : FnIs Tryz.prog 252 := .of Tryz.func252 rfl rfl
instance fn253 : FnIs Tryz.prog 253 := .of Tryz.func253 rfl rfl
instance fn254 : FnIs Tryz.prog 254 := .of Tryz.func254 rfl rfl
instance fn255 : FnIs Tryz.prog 255 := .of Tryz.func255 rfl rfl
instance fn256 : FnIs Tryz.prog 256 := .of Tryz.func256 rfl rfl
instance fn258 : FnIs Tryz.prog 258 := .of Tryz.func258 rfl rfl
instance fn259 : FnIs Tryz.prog 259 := .of Tryz.func259 rfl rfl
instance fn260 : FnIs Tryz.prog 260 := .of Tryz.func260 rfl rfl
instance fn261 : FnIs Tryz.prog 261 := .of Tryz.func261 rfl rfl
instance fn262 : FnIs Tryz.prog 262 := .of Tryz.func262 rfl rfl
instance fn263 : FnIs Tryz.prog 263 := .of Tryz.func263 rfl rfl
instance fn264 : FnIs Tryz.prog 264 := .of Tryz.func264 rfl rfl
instance fn265 : FnIs Tryz.prog 265 := .of Tryz.func265 rfl rfl
instance fn266 : FnIs Tryz.prog 266 := .of Tryz.func266 rfl rfl
instance fn267 : FnIs Tryz.prog 267 := .of Tryz.func267 rfl rfl
instance fn268 : FnIs Tryz.prog 268 := .of Tryz.func268 rfl rfl
instance fn269 : FnIs Tryz.prog 269 := .of Tryz.func269 rfl rfl
instance fn270 : FnIs Tryz.prog 270 := .of Tryz.func270 rfl rfl
instance fn271 : FnIs Tryz.prog 271 := .of Tryz.func271 rfl rfl
instance fn272 : FnIs Tryz.prog 272 := .of Tryz.func272 rfl rfl
instance fn273 : FnIs Tryz.prog 273 := .of Tryz.func273 rfl rfl
instance fn274 : FnIs Tryz.prog 274 := .of Tryz.func274 rfl rfl
instance fn275 : FnIs Tryz.prog 275 := .of Tryz.func275 rfl rfl
instance fn276 : FnIs Tryz.prog 276 := .of Tryz.func276 rfl rfl
instance fn277 : FnIs Tryz.prog 277 := .of Tryz.func277 rfl rfl
instance fn278 : FnIs Tryz.prog 278 := .of Tryz.func278 rfl rfl
instance fn279 : FnIs Tryz.prog 279 := .of Tryz.func279 rfl rfl
instance fn280 : FnIs Tryz.prog 280 := .of Tryz.func280 rfl rfl
instance fn281 : FnIs Tryz.prog 281 := .of Tryz.func281 rfl rfl
instance fn282 : FnIs Tryz.prog 282 := .of Tryz.func282 rfl rfl
instance fn283 : FnIs Tryz.prog 283 := .of Tryz.func283 rfl rfl
instance fn284 : FnIs Tryz.prog 284 := .of Tryz.func284 rfl rfl
instance fn285 : FnIs Tryz.prog 285 := .of Tryz.func285 rfl rfl
instance fn286 : FnIs Tryz.prog 286 := .of Tryz.func286 rfl rfl
instance fn287 : FnIs Tryz.prog 287 := .of Tryz.func287 rfl rfl
instance fn288 : FnIs Tryz.prog 288 := .of Tryz.func288 rfl rfl
instance fn290 : FnIs Tryz.prog 290 := .of Tryz.func290 rfl rfl
instance fn291 : FnIs Tryz.prog 291 := .of Tryz.func291 rfl rfl
instance fn292 : FnIs Tryz.prog 292 := .of Tryz.func292 rfl rfl
instance fn294 : FnIs Tryz.prog 294 := .of Tryz.func294 rfl rfl
instance fn321 : FnIs Tryz.prog 321 := .of Tryz.func321 rfl rfl
theorem mixed : Tryz.prog.follows .mixedOrders = true := by kernel_rfl
end Go.Proofs.YtdiimgkopknbcaaGreatDoor
