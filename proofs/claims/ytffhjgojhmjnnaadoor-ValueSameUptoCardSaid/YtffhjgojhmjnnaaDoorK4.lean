/- What the types of the translation are, and which functions may be called: closed facts, by program. -/
import Derived.Test.YtffhjgojhmjnnaaDoorK2
import Derived.Test.YtffhjgojhmjnnaaDoorProg
namespace Go.Proofs.YtffhjgojhmjnnaaDoor
open Go E
set_option maxRecDepth 100000
instance ty1 : TyIs Tryd.prog 1 (Go.TypeDesc.func #[] #[] false) 1 8 .nilFunc := .of (by kernel_rfl) Tryd.underlying1 rfl
instance ty2 : TyIs Tryd.prog 2 (Go.TypeDesc.int Go.IntKind.i64) 1 8 (.int .i64 0) := .of (by kernel_rfl) Tryd.underlying2 rfl
instance ty3 : TyIs Tryd.prog 3 (Go.TypeDesc.int Go.IntKind.i64) 1 8 (.int .i64 0) := .of (by kernel_rfl) Tryd.underlying3 rfl
instance ty4 : TyIs Tryd.prog 4 Go.TypeDesc.bool 1 1 (.bool false) := .of (by kernel_rfl) Tryd.underlying4 rfl
instance ty5 : TyIs Tryd.prog 5 (Go.TypeDesc.int Go.IntKind.u8) 1 1 (.int .u8 0) := .of (by kernel_rfl) Tryd.underlying5 rfl
instance ty6 : TyIs Tryd.prog 6 (Go.TypeDesc.int Go.IntKind.u8) 1 1 (.int .u8 0) := .of (by kernel_rfl) Tryd.underlying6 rfl
instance ty7 : TyIs Tryd.prog 7 (Go.TypeDesc.struct #[{ name := "x", type := 2, offset := 0, embedded := false, tag := "", pkgPath := "runtime", byteOffset := 0 }, { name := "y", type := 3, offset := 1, embedded := false, tag := "", pkgPath := "runtime", byteOffset := 8 }, { name := "signed", type := 4, offset := 2, embedded := false, tag := "", pkgPath := "runtime", byteOffset := 16 }, { name := "code", type := 6, offset := 3, embedded := false, tag := "", pkgPath := "runtime", byteOffset := 17 }]) 4 24 (.agg #[(.int .i64 0), (.int .i64 0), (.bool false), (.int .u8 0)]) := .of (by kernel_rfl) Tryd.underlying7 rfl
instance ty8 : TyIs Tryd.prog 8 (Go.TypeDesc.struct #[{ name := "x", type := 2, offset := 0, embedded := false, tag := "", pkgPath := "runtime", byteOffset := 0 }, { name := "y", type := 3, offset := 1, embedded := false, tag := "", pkgPath := "runtime", byteOffset := 8 }, { name := "signed", type := 4, offset := 2, embedded := false, tag := "", pkgPath := "runtime", byteOffset := 16 }, { name := "code", type := 6, offset := 3, embedded := false, tag := "", pkgPath := "runtime", byteOffset := 17 }]) 4 24 (.agg #[(.int .i64 0), (.int .i64 0), (.bool false), (.int .u8 0)]) := .of (by kernel_rfl) Tryd.underlying8 rfl
instance ty9 : TyIs Tryd.prog 9 Go.TypeDesc.string 1 16 (.string ⟨#[]⟩) := .of (by kernel_rfl) Tryd.underlying9 rfl
instance ty10 : TyIs Tryd.prog 10 Go.TypeDesc.string 1 16 (.string ⟨#[]⟩) := .of (by kernel_rfl) Tryd.underlying10 rfl
instance ty11 : TyIs Tryd.prog 11 Go.TypeDesc.string 1 16 (.string ⟨#[]⟩) := .of (by kernel_rfl) Tryd.underlying11 rfl
instance ty12 : TyIs Tryd.prog 12 (Go.TypeDesc.int Go.IntKind.u64) 1 8 (.int .u64 0) := .of (by kernel_rfl) Tryd.underlying12 rfl
instance ty13 : TyIs Tryd.prog 13 (Go.TypeDesc.struct #[{ name := "msg", type := 9, offset := 0, embedded := false, tag := "", pkgPath := "runtime", byteOffset := 0 }, { name := "addr", type := 12, offset := 1, embedded := false, tag := "", pkgPath := "runtime", byteOffset := 16 }]) 2 24 (.agg #[(.string ⟨#[]⟩), (.int .u64 0)]) := .of (by kernel_rfl) Tryd.underlying13 rfl
instance ty14 : TyIs Tryd.prog 14 (Go.TypeDesc.struct #[{ name := "msg", type := 9, offset := 0, embedded := false, tag := "", pkgPath := "runtime", byteOffset := 0 }, { name := "addr", type := 12, offset := 1, embedded := false, tag := "", pkgPath := "runtime", byteOffset := 16 }]) 2 24 (.agg #[(.string ⟨#[]⟩), (.int .u64 0)]) := .of (by kernel_rfl) Tryd.underlying14 rfl
instance ty15 : TyIs Tryd.prog 15 (Go.TypeDesc.pointer 137) 1 8 (.pointer none) := .of (by kernel_rfl) Tryd.underlying15 rfl
instance ty16 : TyIs Tryd.prog 16 (Go.TypeDesc.pointer 140) 1 8 (.pointer none) := .of (by kernel_rfl) Tryd.underlying16 rfl
instance ty17 : TyIs Tryd.prog 17 (Go.TypeDesc.pointer 147) 1 8 (.pointer none) := .of (by kernel_rfl) Tryd.underlying17 rfl
instance ty18 : TyIs Tryd.prog 18 (Go.TypeDesc.struct #[{ name := "typ", type := 17, offset := 0, embedded := false, tag := "", pkgPath := "internal/runtime/maps", byteOffset := 0 }]) 1 8 (.agg #[(.pointer none)]) := .of (by kernel_rfl) Tryd.underlying18 rfl
instance ty19 : TyIs Tryd.prog 19 (Go.TypeDesc.struct #[{ name := "typ", type := 17, offset := 0, embedded := false, tag := "", pkgPath := "internal/runtime/maps", byteOffset := 0 }]) 1 8 (.agg #[(.pointer none)]) := .of (by kernel_rfl) Tryd.underlying19 rfl
instance ty20 : TyIs Tryd.prog 20 (Go.TypeDesc.interface #[]) 1 16 .nilIface := .of (by kernel_rfl) Tryd.underlying20 rfl
instance ty21 : TyIs Tryd.prog 21 (Go.TypeDesc.int Go.IntKind.i32) 1 4 (.int .i32 0) := .of (by kernel_rfl) Tryd.underlying21 rfl
instance ty22 : TyIs Tryd.prog 22 (Go.TypeDesc.slice 3) 1 24 (.slice none 0 0) := .of (by kernel_rfl) Tryd.underlying22 rfl
instance ty23 : TyIs Tryd.prog 23 (Go.TypeDesc.slice 25) 1 24 (.slice none 0 0) := .of (by kernel_rfl) Tryd.underlying23 rfl
instance ty24 : TyIs Tryd.prog 24 (Go.TypeDesc.struct #[{ name := "N", type := 3, offset := 0, embedded := false, tag := "", pkgPath := "", byteOffset := 0 }, { name := "S", type := 22, offset := 1, embedded := false, tag := "", pkgPath := "", byteOffset := 8 }, { name := "L", type := 23, offset := 2, embedded := false, tag := "", pkgPath := "", byteOffset := 32 }]) 3 56 (.agg #[(.int .i64 0), (.slice none 0 0), (.slice none 0 0)]) := .of (by kernel_rfl) Tryd.underlying24 rfl
instance ty25 : TyIs Tryd.prog 25 (Go.TypeDesc.struct #[{ name := "N", type := 3, offset := 0, embedded := false, tag := "", pkgPath := "", byteOffset := 0 }, { name := "S", type := 22, offset := 1, embedded := false, tag := "", pkgPath := "", byteOffset := 8 }, { name := "L", type := 23, offset := 2, embedded := false, tag := "", pkgPath := "", byteOffset := 32 }]) 3 56 (.agg #[(.int .i64 0), (.slice none 0 0), (.slice none 0 0)]) := .of (by kernel_rfl) Tryd.underlying25 rfl
instance ty26 : TyIs Tryd.prog 26 (Go.TypeDesc.func #[25] #[4] false) 1 8 .nilFunc := .of (by kernel_rfl) Tryd.underlying26 rfl
instance ty27 : TyIs Tryd.prog 27 (Go.TypeDesc.func #[] #[4] false) 1 8 .nilFunc := .of (by kernel_rfl) Tryd.underlying27 rfl
instance ty28 : TyIs Tryd.prog 28 (Go.TypeDesc.func #[25, 25] #[4] false) 1 8 .nilFunc := .of (by kernel_rfl) Tryd.underlying28 rfl
instance ty29 : TyIs Tryd.prog 29 (Go.TypeDesc.func #[25, 3] #[3] false) 1 8 .nilFunc := .of (by kernel_rfl) Tryd.underlying29 rfl
instance ty30 : TyIs Tryd.prog 30 (Go.TypeDesc.int Go.IntKind.i64) 1 8 (.int .i64 0) := .of (by kernel_rfl) Tryd.underlying30 rfl
instance ty32 : TyIs Tryd.prog 32 (Go.TypeDesc.func #[36, 25] #[9, 30] false) 1 8 .nilFunc := .of (by kernel_rfl) Tryd.underlying32 rfl
instance ty33 : TyIs Tryd.prog 33 (Go.TypeDesc.slice 9) 1 24 (.slice none 0 0) := .of (by kernel_rfl) Tryd.underlying33 rfl
instance ty34 : TyIs Tryd.prog 34 (Go.TypeDesc.slice 36) 1 24 (.slice none 0 0) := .of (by kernel_rfl) Tryd.underlying34 rfl
instance ty35 : TyIs Tryd.prog 35 (Go.TypeDesc.struct #[{ name := "Kind", type := 3, offset := 0, embedded := false, tag := "", pkgPath := "", byteOffset := 0 }, { name := "Names", type := 33, offset := 1, embedded := false, tag := "", pkgPath := "", byteOffset := 8 }, { name := "L", type := 34, offset := 2, embedded := false, tag := "", pkgPath := "", byteOffset := 32 }, { name := "R", type := 3, offset := 3, embedded := false, tag := "", pkgPath := "", byteOffset := 56 }]) 4 64 (.agg #[(.int .i64 0), (.slice none 0 0), (.slice none 0 0), (.int .i64 0)]) := .of (by kernel_rfl) Tryd.underlying35 rfl
instance ty36 : TyIs Tryd.prog 36 (Go.TypeDesc.struct #[{ name := "Kind", type := 3, offset := 0, embedded := false, tag := "", pkgPath := "", byteOffset := 0 }, { name := "Names", type := 33, offset := 1, embedded := false, tag := "", pkgPath := "", byteOffset := 8 }, { name := "L", type := 34, offset := 2, embedded := false, tag := "", pkgPath := "", byteOffset := 32 }, { name := "R", type := 3, offset := 3, embedded := false, tag := "", pkgPath := "", byteOffset := 56 }]) 4 64 (.agg #[(.int .i64 0), (.slice none 0 0), (.slice none 0 0), (.int .i64 0)]) := .of (by kernel_rfl) Tryd.underlying36 rfl
instance ty37 : TyIs Tryd.prog 37 (Go.TypeDesc.func #[22, 22] #[4] false) 1 8 .nilFunc := .of (by kernel_rfl) Tryd.underlying37 rfl
instance ty38 : TyIs Tryd.prog 38 (Go.TypeDesc.func #[23, 23, 28] #[4] false) 1 8 .nilFunc := .of (by kernel_rfl) Tryd.underlying38 rfl
instance ty39 : TyIs Tryd.prog 39 (Go.TypeDesc.func #[36, 25] #[30] false) 1 8 .nilFunc := .of (by kernel_rfl) Tryd.underlying39 rfl
instance ty40 : TyIs Tryd.prog 40 (Go.TypeDesc.func #[36, 25] #[9] false) 1 8 .nilFunc := .of (by kernel_rfl) Tryd.underlying40 rfl
instance ty41 : TyIs Tryd.prog 41 (Go.TypeDesc.func #[36] #[30] false) 1 8 .nilFunc := .of (by kernel_rfl) Tryd.underlying41 rfl
instance ty42 : TyIs Tryd.prog 42 (Go.TypeDesc.func #[36, 25] #[3] false) 1 8 .nilFunc := .of (by kernel_rfl) Tryd.underlying42 rfl
instance ty43 : TyIs Tryd.prog 43 (Go.TypeDesc.func #[3] #[36] false) 1 8 .nilFunc := .of (by kernel_rfl) Tryd.underlying43 rfl
instance ty44 : TyIs Tryd.prog 44 (Go.TypeDesc.func #[33, 9] #[9] false) 1 8 .nilFunc := .of (by kernel_rfl) Tryd.underlying44 rfl
instance ty45 : TyIs Tryd.prog 45 (Go.TypeDesc.func #[43] #[9] false) 1 8 .nilFunc := .of (by kernel_rfl) Tryd.underlying45 rfl
instance ty46 : TyIs Tryd.prog 46 (Go.TypeDesc.func #[4] #[9] false) 1 8 .nilFunc := .of (by kernel_rfl) Tryd.underlying46 rfl
instance ty47 : TyIs Tryd.prog 47 (Go.TypeDesc.func #[48, 3] #[9] false) 1 8 .nilFunc := .of (by kernel_rfl) Tryd.underlying47 rfl
instance ty48 : TyIs Tryd.prog 48 (Go.TypeDesc.int Go.IntKind.u64) 1 8 (.int .u64 0) := .of (by kernel_rfl) Tryd.underlying48 rfl
instance ty49 : TyIs Tryd.prog 49 (Go.TypeDesc.func #[9] #[9] false) 1 8 .nilFunc := .of (by kernel_rfl) Tryd.underlying49 rfl
instance ty50 : TyIs Tryd.prog 50 (Go.TypeDesc.func #[2, 3] #[9] false) 1 8 .nilFunc := .of (by kernel_rfl) Tryd.underlying50 rfl
instance ty51 : TyIs Tryd.prog 51 (Go.TypeDesc.func #[22] #[9] false) 1 8 .nilFunc := .of (by kernel_rfl) Tryd.underlying51 rfl
instance ty52 : TyIs Tryd.prog 52 (Go.TypeDesc.func #[36] #[36] false) 1 8 .nilFunc := .of (by kernel_rfl) Tryd.underlying52 rfl
instance ty53 : TyIs Tryd.prog 53 (Go.TypeDesc.func #[3] #[9] false) 1 8 .nilFunc := .of (by kernel_rfl) Tryd.underlying53 rfl
instance ty54 : TyIs Tryd.prog 54 (Go.TypeDesc.func #[36, 3] #[3] false) 1 8 .nilFunc := .of (by kernel_rfl) Tryd.underlying54 rfl
instance ty56 : TyIs Tryd.prog 56 (Go.TypeDesc.func #[3] #[3, 3, 4] false) 1 8 .nilFunc := .of (by kernel_rfl) Tryd.underlying56 rfl
instance ty57 : TyIs Tryd.prog 57 (Go.TypeDesc.func #[3] #[4] false) 1 8 .nilFunc := .of (by kernel_rfl) Tryd.underlying57 rfl
instance ty58 : TyIs Tryd.prog 58 (Go.TypeDesc.func #[22, 57] #[4] false) 1 8 .nilFunc := .of (by kernel_rfl) Tryd.underlying58 rfl
instance ty59 : TyIs Tryd.prog 59 (Go.TypeDesc.func #[34, 23] #[3] false) 1 8 .nilFunc := .of (by kernel_rfl) Tryd.underlying59 rfl
instance ty60 : TyIs Tryd.prog 60 (Go.TypeDesc.func #[34, 3] #[34] false) 1 8 .nilFunc := .of (by kernel_rfl) Tryd.underlying60 rfl
instance ty61 : TyIs Tryd.prog 61 (Go.TypeDesc.pointer 64) 1 8 (.pointer none) := .of (by kernel_rfl) Tryd.underlying61 rfl
instance ty62 : TyIs Tryd.prog 62 (Go.TypeDesc.slice 5) 1 24 (.slice none 0 0) := .of (by kernel_rfl) Tryd.underlying62 rfl
instance ty63 : TyIs Tryd.prog 63 (Go.TypeDesc.struct #[{ name := "addr", type := 61, offset := 0, embedded := false, tag := "", pkgPath := "strings", byteOffset := 0 }, { name := "buf", type := 62, offset := 1, embedded := false, tag := "", pkgPath := "strings", byteOffset := 8 }]) 2 32 (.agg #[(.pointer none), (.slice none 0 0)]) := .of (by kernel_rfl) Tryd.underlying63 rfl
instance ty64 : TyIs Tryd.prog 64 (Go.TypeDesc.struct #[{ name := "addr", type := 61, offset := 0, embedded := false, tag := "", pkgPath := "strings", byteOffset := 0 }, { name := "buf", type := 62, offset := 1, embedded := false, tag := "", pkgPath := "strings", byteOffset := 8 }]) 2 32 (.agg #[(.pointer none), (.slice none 0 0)]) := .of (by kernel_rfl) Tryd.underlying64 rfl
instance ty65 : TyIs Tryd.prog 65 (Go.TypeDesc.func #[3] #[] false) 1 8 .nilFunc := .of (by kernel_rfl) Tryd.underlying65 rfl
instance ty66 : TyIs Tryd.prog 66 (Go.TypeDesc.interface #[("Error", 70)]) 1 16 .nilIface := .of (by kernel_rfl) Tryd.underlying66 rfl
instance ty67 : TyIs Tryd.prog 67 (Go.TypeDesc.interface #[("Error", 70)]) 1 16 .nilIface := .of (by kernel_rfl) Tryd.underlying67 rfl
instance ty69 : TyIs Tryd.prog 69 (Go.TypeDesc.func #[9] #[3, 67] false) 1 8 .nilFunc := .of (by kernel_rfl) Tryd.underlying69 rfl
instance ty70 : TyIs Tryd.prog 70 (Go.TypeDesc.func #[] #[9] false) 1 8 .nilFunc := .of (by kernel_rfl) Tryd.underlying70 rfl
instance ty71 : TyIs Tryd.prog 71 (Go.TypeDesc.func #[5] #[67] false) 1 8 .nilFunc := .of (by kernel_rfl) Tryd.underlying71 rfl
instance ty72 : TyIs Tryd.prog 72 (Go.TypeDesc.func #[73, 9] #[9] false) 1 8 .nilFunc := .of (by kernel_rfl) Tryd.underlying72 rfl
instance ty73 : TyIs Tryd.prog 73 (Go.TypeDesc.func #[21] #[21] false) 1 8 .nilFunc := .of (by kernel_rfl) Tryd.underlying73 rfl
instance ty74 : TyIs Tryd.prog 74 (Go.TypeDesc.func #[33] #[33] false) 1 8 .nilFunc := .of (by kernel_rfl) Tryd.underlying74 rfl
instance ty75 : TyIs Tryd.prog 75 (Go.TypeDesc.func #[34] #[34] false) 1 8 .nilFunc := .of (by kernel_rfl) Tryd.underlying75 rfl
instance ty76 : TyIs Tryd.prog 76 (Go.TypeDesc.func #[33] #[4] false) 1 8 .nilFunc := .of (by kernel_rfl) Tryd.underlying76 rfl
instance ty77 : TyIs Tryd.prog 77 (Go.TypeDesc.func #[36] #[4] false) 1 8 .nilFunc := .of (by kernel_rfl) Tryd.underlying77 rfl
instance ty78 : TyIs Tryd.prog 78 (Go.TypeDesc.func #[22, 57] #[3] false) 1 8 .nilFunc := .of (by kernel_rfl) Tryd.underlying78 rfl
instance ty79 : TyIs Tryd.prog 79 (Go.TypeDesc.int Go.IntKind.u64) 1 8 (.int .u64 0) := .of (by kernel_rfl) Tryd.underlying79 rfl
instance ty81 : TyIs Tryd.prog 81 (Go.TypeDesc.func #[79, 79] #[79, 79] false) 1 8 .nilFunc := .of (by kernel_rfl) Tryd.underlying81 rfl
instance ty82 : TyIs Tryd.prog 82 (Go.TypeDesc.pointer 5) 1 8 (.pointer none) := .of (by kernel_rfl) Tryd.underlying82 rfl
instance ty83 : TyIs Tryd.prog 83 (Go.TypeDesc.array 24 5) 24 24 (.agg #[(.int .u8 0), (.int .u8 0), (.int .u8 0), (.int .u8 0), (.int .u8 0), (.int .u8 0), (.int .u8 0), (.int .u8 0), (.int .u8 0), (.int .u8 0), (.int .u8 0), (.int .u8 0), (.int .u8 0), (.int .u8 0), (.int .u8 0), (.int .u8 0), (.int .u8 0), (.int .u8 0), (.int .u8 0), (.int .u8 0), (.int .u8 0), (.int .u8 0), (.int .u8 0), (.int .u8 0)]) := .of (by kernel_rfl) Tryd.underlying83 rfl
instance ty84 : TyIs Tryd.prog 84 (Go.TypeDesc.func #[48] #[3] false) 1 8 .nilFunc := .of (by kernel_rfl) Tryd.underlying84 rfl
instance ty85 : TyIs Tryd.prog 85 (Go.TypeDesc.func #[62, 48] #[] false) 1 8 .nilFunc := .of (by kernel_rfl) Tryd.underlying85 rfl
instance ty87 : TyIs Tryd.prog 87 (Go.TypeDesc.func #[62, 48, 3, 4, 4] #[62, 9] false) 1 8 .nilFunc := .of (by kernel_rfl) Tryd.underlying87 rfl
instance ty89 : TyIs Tryd.prog 89 (Go.TypeDesc.func #[9] #[21, 3] false) 1 8 .nilFunc := .of (by kernel_rfl) Tryd.underlying89 rfl
instance ty90 : TyIs Tryd.prog 90 (Go.TypeDesc.func #[21] #[3] false) 1 8 .nilFunc := .of (by kernel_rfl) Tryd.underlying90 rfl
instance ty91 : TyIs Tryd.prog 91 (Go.TypeDesc.func #[21] #[3, 67] false) 1 8 .nilFunc := .of (by kernel_rfl) Tryd.underlying91 rfl
instance ty92 : TyIs Tryd.prog 92 (Go.TypeDesc.func #[] #[3] false) 1 8 .nilFunc := .of (by kernel_rfl) Tryd.underlying92 rfl
instance ty93 : TyIs Tryd.prog 93 (Go.TypeDesc.func #[3, 21] #[21] false) 1 8 .nilFunc := .of (by kernel_rfl) Tryd.underlying93 rfl
instance ty94 : TyIs Tryd.prog 94 (Go.TypeDesc.func #[9] #[4] false) 1 8 .nilFunc := .of (by kernel_rfl) Tryd.underlying94 rfl
instance ty95 : TyIs Tryd.prog 95 (Go.TypeDesc.func #[33, 9] #[4] false) 1 8 .nilFunc := .of (by kernel_rfl) Tryd.underlying95 rfl
instance ty96 : TyIs Tryd.prog 96 (Go.TypeDesc.int Go.IntKind.u32) 1 4 (.int .u32 0) := .of (by kernel_rfl) Tryd.underlying96 rfl
instance ty98 : TyIs Tryd.prog 98 (Go.TypeDesc.func #[96, 96] #[96, 96] false) 1 8 .nilFunc := .of (by kernel_rfl) Tryd.underlying98 rfl
instance ty100 : TyIs Tryd.prog 100 (Go.TypeDesc.func #[48, 48] #[48, 48] false) 1 8 .nilFunc := .of (by kernel_rfl) Tryd.underlying100 rfl
instance ty101 : TyIs Tryd.prog 101 Go.TypeDesc.unsafePointer 1 8 (.pointer none) := .of (by kernel_rfl) Tryd.underlying101 rfl
instance ty102 : TyIs Tryd.prog 102 (Go.TypeDesc.func #[101] #[101] false) 1 8 .nilFunc := .of (by kernel_rfl) Tryd.underlying102 rfl
instance ty103 : TyIs Tryd.prog 103 (Go.TypeDesc.func #[3] #[62] false) 1 8 .nilFunc := .of (by kernel_rfl) Tryd.underlying103 rfl
instance ty104 : TyIs Tryd.prog 104 (Go.TypeDesc.func #[3] #[3] false) 1 8 .nilFunc := .of (by kernel_rfl) Tryd.underlying104 rfl
instance ty105 : TyIs Tryd.prog 105 (Go.TypeDesc.func #[4] #[3] false) 1 8 .nilFunc := .of (by kernel_rfl) Tryd.underlying105 rfl
instance ty106 : TyIs Tryd.prog 106 (Go.TypeDesc.array 20 48) 20 160 (.agg #[(.int .u64 0), (.int .u64 0), (.int .u64 0), (.int .u64 0), (.int .u64 0), (.int .u64 0), (.int .u64 0), (.int .u64 0), (.int .u64 0), (.int .u64 0), (.int .u64 0), (.int .u64 0), (.int .u64 0), (.int .u64 0), (.int .u64 0), (.int .u64 0), (.int .u64 0), (.int .u64 0), (.int .u64 0), (.int .u64 0)]) := .of (by kernel_rfl) Tryd.underlying106 rfl
instance ty107 : TyIs Tryd.prog 107 (Go.TypeDesc.array 65 5) 65 65 (.agg #[(.int .u8 0), (.int .u8 0), (.int .u8 0), (.int .u8 0), (.int .u8 0), (.int .u8 0), (.int .u8 0), (.int .u8 0), (.int .u8 0), (.int .u8 0), (.int .u8 0), (.int .u8 0), (.int .u8 0), (.int .u8 0), (.int .u8 0), (.int .u8 0), (.int .u8 0), (.int .u8 0), (.int .u8 0), (.int .u8 0), (.int .u8 0), (.int .u8 0), (.int .u8 0), (.int .u8 0), (.int .u8 0), (.int .u8 0), (.int .u8 0), (.int .u8 0), (.int .u8 0), (.int .u8 0), (.int .u8 0), (.int .u8 0), (.int .u8 0), (.int .u8 0), (.int .u8 0), (.int .u8 0), (.int .u8 0), (.int .u8 0), (.int .u8 0), (.int .u8 0), (.int .u8 0), (.int .u8 0), (.int .u8 0), (.int .u8 0), (.int .u8 0), (.int .u8 0), (.int .u8 0), (.int .u8 0), (.int .u8 0), (.int .u8 0), (.int .u8 0), (.int .u8 0), (.int .u8 0), (.int .u8 0), (.int .u8 0), (.int .u8 0), (.int .u8 0), (.int .u8 0), (.int .u8 0), (.int .u8 0), (.int .u8 0), (.int .u8 0), (.int .u8 0), (.int .u8 0), (.int .u8 0)]) := .of (by kernel_rfl) Tryd.underlying107 rfl
instance ty108 : TyIs Tryd.prog 108 (Go.TypeDesc.func #[79] #[3] false) 1 8 .nilFunc := .of (by kernel_rfl) Tryd.underlying108 rfl
instance ty109 : TyIs Tryd.prog 109 (Go.TypeDesc.func #[62, 21] #[62] false) 1 8 .nilFunc := .of (by kernel_rfl) Tryd.underlying109 rfl
instance ty111 : TyIs Tryd.prog 111 (Go.TypeDesc.func #[3, 21, 112] #[21, 4] false) 1 8 .nilFunc := .of (by kernel_rfl) Tryd.underlying111 rfl
instance ty112 : TyIs Tryd.prog 112 (Go.TypeDesc.slice 132) 1 24 (.slice none 0 0) := .of (by kernel_rfl) Tryd.underlying112 rfl
instance ty113 : TyIs Tryd.prog 113 (Go.TypeDesc.func #[94] #[] false) 1 8 .nilFunc := .of (by kernel_rfl) Tryd.underlying113 rfl
instance ty114 : TyIs Tryd.prog 114 (Go.TypeDesc.func #[94] #[] false) 1 8 .nilFunc := .of (by kernel_rfl) Tryd.underlying114 rfl
instance ty115 : TyIs Tryd.prog 115 (Go.TypeDesc.func #[9, 9] #[114] false) 1 8 .nilFunc := .of (by kernel_rfl) Tryd.underlying115 rfl
instance ty116 : TyIs Tryd.prog 116 (Go.TypeDesc.func #[33, 9] #[3] false) 1 8 .nilFunc := .of (by kernel_rfl) Tryd.underlying116 rfl
instance ty117 : TyIs Tryd.prog 117 (Go.TypeDesc.func #[96] #[3] false) 1 8 .nilFunc := .of (by kernel_rfl) Tryd.underlying117 rfl
instance ty118 : TyIs Tryd.prog 118 (Go.TypeDesc.array 256 5) 256 256 (.agg #[(.int .u8 0), (.int .u8 0), (.int .u8 0), (.int .u8 0), (.int .u8 0), (.int .u8 0), (.int .u8 0), (.int .u8 0), (.int .u8 0), (.int .u8 0), (.int .u8 0), (.int .u8 0), (.int .u8 0), (.int .u8 0), (.int .u8 0), (.int .u8 0), (.int .u8 0), (.int .u8 0), (.int .u8 0), (.int .u8 0), (.int .u8 0), (.int .u8 0), (.int .u8 0), (.int .u8 0), (.int .u8 0), (.int .u8 0), (.int .u8 0), (.int .u8 0), (.int .u8 0), (.int .u8 0), (.int .u8 0), (.int .u8 0), (.int .u8 0), (.int .u8 0), (.int .u8 0), (.int .u8 0), (.int .u8 0), (.int .u8 0), (.int .u8 0), (.int .u8 0), (.int .u8 0), (.int .u8 0), (.int .u8 0), (.int .u8 0), (.int .u8 0), (.int .u8 0), (.int .u8 0), (.int .u8 0), (.int .u8 0), (.int .u8 0), (.int .u8 0), (.int .u8 0), (.int .u8 0), (.int .u8 0), (.int .u8 0), (.int .u8 0), (.int .u8 0), (.int .u8 0), (.int .u8 0), (.int .u8 0), (.int .u8 0), (.int .u8 0), (.int .u8 0), (.int .u8 0), (.int .u8 0), (.int .u8 0), (.int .u8 0), (.int .u8 0), (.int .u8 0), (.int .u8 0), (.int .u8 0), (.int .u8 0), (.int .u8 0), (.int .u8 0), (.int .u8 0), (.int .u8 0), (.int .u8 0), (.int .u8 0), (.int .u8 0), (.int .u8 0), (.int .u8 0), (.int .u8 0), (.int .u8 0), (.int .u8 0), (.int .u8 0), (.int .u8 0), (.int .u8 0), (.int .u8 0), (.int .u8 0), (.int .u8 0), (.int .u8 0), (.int .u8 0), (.int .u8 0), (.int .u8 0), (.int .u8 0), (.int .u8 0), (.int .u8 0), (.int .u8 0), (.int .u8 0), (.int .u8 0), (.int .u8 0), (.int .u8 0), (.int .u8 0), (.int .u8 0), (.int .u8 0), (.int .u8 0), (.int .u8 0), (.int .u8 0), (.int .u8 0), (.int .u8 0), (.int .u8 0), (.int .u8 0), (.int .u8 0), (.int .u8 0), (.int .u8 0), (.int .u8 0), (.int .u8 0), (.int .u8 0), (.int .u8 0), (.int .u8 0), (.int .u8 0), (.int .u8 0), (.int .u8 0), (.int .u8 0), (.int .u8 0), (.int .u8 0), (.int .u8 0), (.int .u8 0), (.int .u8 0), (.int .u8 0), (.int .u8 0), (.int .u8 0), (.int .u8 0), (.int .u8 0), (.int .u8 0), (.int .u8 0), (.int .u8 0), (.int .u8 0), (.int .u8 0), (.int .u8 0), (.int .u8 0), (.int .u8 0), (.int .u8 0), (.int .u8 0), (.int .u8 0), (.int .u8 0), (.int .u8 0), (.int .u8 0), (.int .u8 0), (.int .u8 0), (.int .u8 0), (.int .u8 0), (.int .u8 0), (.int .u8 0), (.int .u8 0), (.int .u8 0), (.int .u8 0), (.int .u8 0), (.int .u8 0), (.int .u8 0), (.int .u8 0), (.int .u8 0), (.int .u8 0), (.int .u8 0), (.int .u8 0), (.int .u8 0), (.int .u8 0), (.int .u8 0), (.int .u8 0), (.int .u8 0), (.int .u8 0), (.int .u8 0), (.int .u8 0), (.int .u8 0), (.int .u8 0), (.int .u8 0), (.int .u8 0), (.int .u8 0), (.int .u8 0), (.int .u8 0), (.int .u8 0), (.int .u8 0), (.int .u8 0), (.int .u8 0), (.int .u8 0), (.int .u8 0), (.int .u8 0), (.int .u8 0), (.int .u8 0), (.int .u8 0), (.int .u8 0), (.int .u8 0), (.int .u8 0), (.int .u8 0), (.int .u8 0), (.int .u8 0), (.int .u8 0), (.int .u8 0), (.int .u8 0), (.int .u8 0), (.int .u8 0), (.int .u8 0), (.int .u8 0), (.int .u8 0), (.int .u8 0), (.int .u8 0), (.int .u8 0), (.int .u8 0), (.int .u8 0), (.int .u8 0), (.int .u8 0), (.int .u8 0), (.int .u8 0), (.int .u8 0), (.int .u8 0), (.int .u8 0), (.int .u8 0), (.int .u8 0), (.int .u8 0), (.int .u8 0), (.int .u8 0), (.int .u8 0), (.int .u8 0), (.int .u8 0), (.int .u8 0), (.int .u8 0), (.int .u8 0), (.int .u8 0), (.int .u8 0), (.int .u8 0), (.int .u8 0), (.int .u8 0), (.int .u8 0), (.int .u8 0), (.int .u8 0), (.int .u8 0), (.int .u8 0), (.int .u8 0), (.int .u8 0), (.int .u8 0), (.int .u8 0), (.int .u8 0), (.int .u8 0), (.int .u8 0), (.int .u8 0), (.int .u8 0), (.int .u8 0), (.int .u8 0), (.int .u8 0), (.int .u8 0), (.int .u8 0), (.int .u8 0), (.int .u8 0), (.int .u8 0), (.int .u8 0), (.int .u8 0)]) := .of (by kernel_rfl) Tryd.underlying118 rfl
instance ty119 : TyIs Tryd.prog 119 (Go.TypeDesc.struct #[{ name := "lo", type := 5, offset := 0, embedded := false, tag := "", pkgPath := "unicode/utf8", byteOffset := 0 }, { name := "hi", type := 5, offset := 1, embedded := false, tag := "", pkgPath := "unicode/utf8", byteOffset := 1 }]) 2 2 (.agg #[(.int .u8 0), (.int .u8 0)]) := .of (by kernel_rfl) Tryd.underlying119 rfl
instance ty120 : TyIs Tryd.prog 120 (Go.TypeDesc.struct #[{ name := "lo", type := 5, offset := 0, embedded := false, tag := "", pkgPath := "unicode/utf8", byteOffset := 0 }, { name := "hi", type := 5, offset := 1, embedded := false, tag := "", pkgPath := "unicode/utf8", byteOffset := 1 }]) 2 2 (.agg #[(.int .u8 0), (.int .u8 0)]) := .of (by kernel_rfl) Tryd.underlying120 rfl
instance ty121 : TyIs Tryd.prog 121 (Go.TypeDesc.array 16 120) 32 32 (.agg #[(.int .u8 0), (.int .u8 0), (.int .u8 0), (.int .u8 0), (.int .u8 0), (.int .u8 0), (.int .u8 0), (.int .u8 0), (.int .u8 0), (.int .u8 0), (.int .u8 0), (.int .u8 0), (.int .u8 0), (.int .u8 0), (.int .u8 0), (.int .u8 0), (.int .u8 0), (.int .u8 0), (.int .u8 0), (.int .u8 0), (.int .u8 0), (.int .u8 0), (.int .u8 0), (.int .u8 0), (.int .u8 0), (.int .u8 0), (.int .u8 0), (.int .u8 0), (.int .u8 0), (.int .u8 0), (.int .u8 0), (.int .u8 0)]) := .of (by kernel_rfl) Tryd.underlying121 rfl
instance ty122 : TyIs Tryd.prog 122 (Go.TypeDesc.pointer 132) 1 8 (.pointer none) := .of (by kernel_rfl) Tryd.underlying122 rfl
instance ty123 : TyIs Tryd.prog 123 (Go.TypeDesc.func #[21, 112] #[122] false) 1 8 .nilFunc := .of (by kernel_rfl) Tryd.underlying123 rfl
instance ty124 : TyIs Tryd.prog 124 (Go.TypeDesc.func #[3, 21, 122] #[21] false) 1 8 .nilFunc := .of (by kernel_rfl) Tryd.underlying124 rfl
instance ty125 : TyIs Tryd.prog 125 (Go.TypeDesc.func #[9, 9, 3] #[114] false) 1 8 .nilFunc := .of (by kernel_rfl) Tryd.underlying125 rfl
instance ty126 : TyIs Tryd.prog 126 (Go.TypeDesc.func #[5] #[4] false) 1 8 .nilFunc := .of (by kernel_rfl) Tryd.underlying126 rfl
instance ty127 : TyIs Tryd.prog 127 (Go.TypeDesc.array 32 5) 32 32 (.agg #[(.int .u8 0), (.int .u8 0), (.int .u8 0), (.int .u8 0), (.int .u8 0), (.int .u8 0), (.int .u8 0), (.int .u8 0), (.int .u8 0), (.int .u8 0), (.int .u8 0), (.int .u8 0), (.int .u8 0), (.int .u8 0), (.int .u8 0), (.int .u8 0), (.int .u8 0), (.int .u8 0), (.int .u8 0), (.int .u8 0), (.int .u8 0), (.int .u8 0), (.int .u8 0), (.int .u8 0), (.int .u8 0), (.int .u8 0), (.int .u8 0), (.int .u8 0), (.int .u8 0), (.int .u8 0), (.int .u8 0), (.int .u8 0)]) := .of (by kernel_rfl) Tryd.underlying127 rfl
instance ty128 : TyIs Tryd.prog 128 (Go.TypeDesc.array 64 5) 64 64 (.agg #[(.int .u8 0), (.int .u8 0), (.int .u8 0), (.int .u8 0), (.int .u8 0), (.int .u8 0), (.int .u8 0), (.int .u8 0), (.int .u8 0), (.int .u8 0), (.int .u8 0), (.int .u8 0), (.int .u8 0), (.int .u8 0), (.int .u8 0), (.int .u8 0), (.int .u8 0), (.int .u8 0), (.int .u8 0), (.int .u8 0), (.int .u8 0), (.int .u8 0), (.int .u8 0), (.int .u8 0), (.int .u8 0), (.int .u8 0), (.int .u8 0), (.int .u8 0), (.int .u8 0), (.int .u8 0), (.int .u8 0), (.int .u8 0), (.int .u8 0), (.int .u8 0), (.int .u8 0), (.int .u8 0), (.int .u8 0), (.int .u8 0), (.int .u8 0), (.int .u8 0), (.int .u8 0), (.int .u8 0), (.int .u8 0), (.int .u8 0), (.int .u8 0), (.int .u8 0), (.int .u8 0), (.int .u8 0), (.int .u8 0), (.int .u8 0), (.int .u8 0), (.int .u8 0), (.int .u8 0), (.int .u8 0), (.int .u8 0), (.int .u8 0), (.int .u8 0), (.int .u8 0), (.int .u8 0), (.int .u8 0), (.int .u8 0), (.int .u8 0), (.int .u8 0), (.int .u8 0)]) := .of (by kernel_rfl) Tryd.underlying128 rfl
instance ty129 : TyIs Tryd.prog 129 (Go.TypeDesc.array 3 21) 3 12 (.agg #[(.int .i32 0), (.int .i32 0), (.int .i32 0)]) := .of (by kernel_rfl) Tryd.underlying129 rfl
instance ty130 : TyIs Tryd.prog 130 (Go.TypeDesc.array 3 21) 3 12 (.agg #[(.int .i32 0), (.int .i32 0), (.int .i32 0)]) := .of (by kernel_rfl) Tryd.underlying130 rfl
instance ty131 : TyIs Tryd.prog 131 (Go.TypeDesc.struct #[{ name := "Lo", type := 96, offset := 0, embedded := false, tag := "", pkgPath := "", byteOffset := 0 }, { name := "Hi", type := 96, offset := 1, embedded := false, tag := "", pkgPath := "", byteOffset := 4 }, { name := "Delta", type := 130, offset := 2, embedded := false, tag := "", pkgPath := "", byteOffset := 8 }]) 5 20 (.agg #[(.int .u32 0), (.int .u32 0), (.int .i32 0), (.int .i32 0), (.int .i32 0)]) := .of (by kernel_rfl) Tryd.underlying131 rfl
instance ty132 : TyIs Tryd.prog 132 (Go.TypeDesc.struct #[{ name := "Lo", type := 96, offset := 0, embedded := false, tag := "", pkgPath := "", byteOffset := 0 }, { name := "Hi", type := 96, offset := 1, embedded := false, tag := "", pkgPath := "", byteOffset := 4 }, { name := "Delta", type := 130, offset := 2, embedded := false, tag := "", pkgPath := "", byteOffset := 8 }]) 5 20 (.agg #[(.int .u32 0), (.int .u32 0), (.int .i32 0), (.int .i32 0), (.int .i32 0)]) := .of (by kernel_rfl) Tryd.underlying132 rfl
instance ty133 : TyIs Tryd.prog 133 (Go.TypeDesc.func #[9, 9] #[3] false) 1 8 .nilFunc := .of (by kernel_rfl) Tryd.underlying133 rfl
instance ty134 : TyIs Tryd.prog 134 (Go.TypeDesc.func #[9, 5] #[3] false) 1 8 .nilFunc := .of (by kernel_rfl) Tryd.underlying134 rfl
instance ty135 : TyIs Tryd.prog 135 (Go.TypeDesc.func #[9] #[96, 96] false) 1 8 .nilFunc := .of (by kernel_rfl) Tryd.underlying135 rfl
instance ty136 : TyIs Tryd.prog 136 (Go.TypeDesc.struct #[{ name := "_interface", type := 17, offset := 0, embedded := false, tag := "", pkgPath := "runtime", byteOffset := 0 }, { name := "concrete", type := 17, offset := 1, embedded := false, tag := "", pkgPath := "runtime", byteOffset := 8 }, { name := "asserted", type := 17, offset := 2, embedded := false, tag := "", pkgPath := "runtime", byteOffset := 16 }, { name := "missingMethod", type := 9, offset := 3, embedded := false, tag := "", pkgPath := "runtime", byteOffset := 24 }]) 4 40 (.agg #[(.pointer none), (.pointer none), (.pointer none), (.string ⟨#[]⟩)]) := .of (by kernel_rfl) Tryd.underlying136 rfl
instance ty137 : TyIs Tryd.prog 137 (Go.TypeDesc.struct #[{ name := "_interface", type := 17, offset := 0, embedded := false, tag := "", pkgPath := "runtime", byteOffset := 0 }, { name := "concrete", type := 17, offset := 1, embedded := false, tag := "", pkgPath := "runtime", byteOffset := 8 }, { name := "asserted", type := 17, offset := 2, embedded := false, tag := "", pkgPath := "runtime", byteOffset := 16 }, { name := "missingMethod", type := 9, offset := 3, embedded := false, tag := "", pkgPath := "runtime", byteOffset := 24 }]) 4 40 (.agg #[(.pointer none), (.pointer none), (.pointer none), (.string ⟨#[]⟩)]) := .of (by kernel_rfl) Tryd.underlying137 rfl
instance ty138 : TyIs Tryd.prog 138 (Go.TypeDesc.array 0 16) 0 0 (.agg #[]) := .of (by kernel_rfl) Tryd.underlying138 rfl
instance ty139 : TyIs Tryd.prog 139 (Go.TypeDesc.struct #[{ name := "_", type := 138, offset := 0, embedded := false, tag := "", pkgPath := "runtime", byteOffset := 0 }]) 0 0 (.agg #[]) := .of (by kernel_rfl) Tryd.underlying139 rfl
instance ty140 : TyIs Tryd.prog 140 (Go.TypeDesc.struct #[{ name := "_", type := 138, offset := 0, embedded := false, tag := "", pkgPath := "runtime", byteOffset := 0 }]) 0 0 (.agg #[]) := .of (by kernel_rfl) Tryd.underlying140 rfl
instance ty141 : TyIs Tryd.prog 141 (Go.TypeDesc.int Go.IntKind.u8) 1 1 (.int .u8 0) := .of (by kernel_rfl) Tryd.underlying141 rfl
instance ty142 : TyIs Tryd.prog 142 (Go.TypeDesc.int Go.IntKind.u8) 1 1 (.int .u8 0) := .of (by kernel_rfl) Tryd.underlying142 rfl
instance ty143 : TyIs Tryd.prog 143 (Go.TypeDesc.func #[101, 101] #[4] false) 1 8 .nilFunc := .of (by kernel_rfl) Tryd.underlying143 rfl
instance ty144 : TyIs Tryd.prog 144 (Go.TypeDesc.int Go.IntKind.i32) 1 4 (.int .i32 0) := .of (by kernel_rfl) Tryd.underlying144 rfl
instance ty145 : TyIs Tryd.prog 145 (Go.TypeDesc.int Go.IntKind.i32) 1 4 (.int .i32 0) := .of (by kernel_rfl) Tryd.underlying145 rfl
instance ty146 : TyIs Tryd.prog 146 (Go.TypeDesc.struct #[{ name := "Size_", type := 12, offset := 0, embedded := false, tag := "", pkgPath := "", byteOffset := 0 }, { name := "PtrBytes", type := 12, offset := 1, embedded := false, tag := "", pkgPath := "", byteOffset := 8 }, { name := "Hash", type := 96, offset := 2, embedded := false, tag := "", pkgPath := "", byteOffset := 16 }, { name := "TFlag", type := 141, offset := 3, embedded := false, tag := "", pkgPath := "", byteOffset := 20 }, { name := "Align_", type := 5, offset := 4, embedded := false, tag := "", pkgPath := "", byteOffset := 21 }, { name := "FieldAlign_", type := 5, offset := 5, embedded := false, tag := "", pkgPath := "", byteOffset := 22 }, { name := "Kind_", type := 142, offset := 6, embedded := false, tag := "", pkgPath := "", byteOffset := 23 }, { name := "Equal", type := 143, offset := 7, embedded := false, tag := "", pkgPath := "", byteOffset := 24 }, { name := "GCData", type := 82, offset := 8, embedded := false, tag := "", pkgPath := "", byteOffset := 32 }, { name := "Str", type := 144, offset := 9, embedded := false, tag := "", pkgPath := "", byteOffset := 40 }, { name := "PtrToThis", type := 145, offset := 10, embedded := false, tag := "", pkgPath := "", byteOffset := 44 }]) 11 48 (.agg #[(.int .u64 0), (.int .u64 0), (.int .u32 0), (.int .u8 0), (.int .u8 0), (.int .u8 0), (.int .u8 0), .nilFunc, (.pointer none), (.int .i32 0), (.int .i32 0)]) := .of (by kernel_rfl) Tryd.underlying146 rfl
instance ty147 : TyIs Tryd.prog 147 (Go.TypeDesc.struct #[{ name := "Size_", type := 12, offset := 0, embedded := false, tag := "", pkgPath := "", byteOffset := 0 }, { name := "PtrBytes", type := 12, offset := 1, embedded := false, tag := "", pkgPath := "", byteOffset := 8 }, { name := "Hash", type := 96, offset := 2, embedded := false, tag := "", pkgPath := "", byteOffset := 16 }, { name := "TFlag", type := 141, offset := 3, embedded := false, tag := "", pkgPath := "", byteOffset := 20 }, { name := "Align_", type := 5, offset := 4, embedded := false, tag := "", pkgPath := "", byteOffset := 21 }, { name := "FieldAlign_", type := 5, offset := 5, embedded := false, tag := "", pkgPath := "", byteOffset := 22 }, { name := "Kind_", type := 142, offset := 6, embedded := false, tag := "", pkgPath := "", byteOffset := 23 }, { name := "Equal", type := 143, offset := 7, embedded := false, tag := "", pkgPath := "", byteOffset := 24 }, { name := "GCData", type := 82, offset := 8, embedded := false, tag := "", pkgPath := "", byteOffset := 32 }, { name := "Str", type := 144, offset := 9, embedded := false, tag := "", pkgPath := "", byteOffset := 40 }, { name := "PtrToThis", type := 145, offset := 10, embedded := false, tag := "", pkgPath := "", byteOffset := 44 }]) 11 48 (.agg #[(.int .u64 0), (.int .u64 0), (.int .u32 0), (.int .u8 0), (.int .u8 0), (.int .u8 0), (.int .u8 0), .nilFunc, (.pointer none), (.int .i32 0), (.int .i32 0)]) := .of (by kernel_rfl) Tryd.underlying147 rfl
instance fn2 : FnIs Tryd.prog 2 := .of Tryd.func2 rfl rfl
instance fn3 : FnIs Tryd.prog 3 := .of Tryd.func3 rfl rfl
instance fn4 : FnIs Tryd.prog 4 := .of Tryd.func4 rfl rfl
instance fn5 : FnIs Tryd.prog 5 := .of Tryd.func5 rfl rfl
instance fn6 : FnIs Tryd.prog 6 := .of Tryd.func6 rfl rfl
instance fn7 : FnIs Tryd.prog 7 := .of Tryd.func7 rfl rfl
instance fn8 : FnIs Tryd.prog 8 := .of Tryd.func8 rfl rfl
instance fn9 : FnIs Tryd.prog 9 := .of Tryd.func9 rfl rfl
instance fn10 : FnIs Tryd.prog 10 := .of Tryd.func10 rfl rfl
instance fn11 : FnIs Tryd.prog 11 := .of Tryd.func11 rfl rfl
instance fn12 : FnIs Tryd.prog 12 := .of Tryd.func12 rfl rfl
instance fn13 : FnIs Tryd.prog 13 := .of Tryd.func13 rfl rfl
instance fn14 : FnIs Tryd.prog 14 := .of Tryd.func14 rfl rfl
instance fn15 : FnIs Tryd.prog 15 := .of Tryd.func15 rfl rfl
instance fn16 : FnIs Tryd.prog 16 := .of Tryd.func16 rfl rfl
instance fn17 : FnIs Tryd.prog 17 := .of Tryd.func17 rfl rfl
instance fn18 : FnIs Tryd.prog 18 := .of Tryd.func18 rfl rfl
instance fn19 : FnIs Tryd.prog 19 := .of Tryd.func19 rfl rfl
instance fn20 : FnIs Tryd.prog 20 := .of Tryd.func20 rfl rfl
instance fn21 : FnIs Tryd.prog 21 := .of Tryd.func21 rfl rfl
instance fn22 : FnIs Tryd.prog 22 := .of Tryd.func22 rfl rfl
instance fn23 : FnIs Tryd.prog 23 := .of Tryd.func23 rfl rfl
instance fn24 : FnIs Tryd.prog 24 := .of Tryd.func24 rfl rfl
instance fn25 : FnIs Tryd.prog 25 := .of Tryd.func25 rfl rfl
instance fn26 : FnIs Tryd.prog 26 := .of Tryd.func26 rfl rfl
instance fn27 : FnIs Tryd.prog 27 := .of Tryd.func27 rfl rfl
instance fn28 : FnIs Tryd.prog 28 := .of Tryd.func28 rfl rfl
instance fn29 : FnIs Tryd.prog 29 := .of Tryd.func29 rfl rfl
instance fn30 : FnIs Tryd.prog 30 := .of Tryd.func30 rfl rfl
instance fn31 : FnIs Tryd.prog 31 := .of Tryd.func31 rfl rfl
instance fn32 : FnIs Tryd.prog 32 := .of Tryd.func32 rfl rfl
instance fn33 : FnIs Tryd.prog 33 := .of Tryd.func33 rfl rfl
instance fn34 : FnIs Tryd.prog 34 := .of Tryd.func34 rfl rfl
instance fn35 : FnIs Tryd.prog 35 := .of Tryd.func35 rfl rfl
instance fn36 : FnIs Tryd.prog 36 := .of Tryd.func36 rfl rfl
instance fn37 : FnIs Tryd.prog 37 := .of Tryd.func37 rfl rfl
instance fn38 : FnIs Tryd.prog 38 := .of Tryd.func38 rfl rfl
instance fn39 : FnIs Tryd.prog 39 := .of Tryd.func39 rfl rfl
instance fn40 : FnIs Tryd.prog 40 := .of Tryd.func40 rfl rfl
instance fn41 : FnIs Tryd.prog 41 := .of Tryd.func41 rfl rfl
instance fn42 : FnIs Tryd.prog 42 := .of Tryd.func42 rfl rfl
instance fn43 : FnIs Tryd.prog 43 := .of Tryd.func43 rfl rfl
instance fn44 : FnIs Tryd.prog 44 := .of Tryd.func44 rfl rfl
instance fn45 : FnIs Tryd.prog 45 := .of Tryd.func45 rfl rfl
instance fn46 : FnIs Tryd.prog 46 := .of Tryd.func46 rfl rfl
instance fn47 : FnIs Tryd.prog 47 := .of Tryd.func47 rfl rfl
instance fn48 : FnIs Tryd.prog 48 := .of Tryd.func48 rfl rfl
instance fn49 : FnIs Tryd.prog 49 := .of Tryd.func49 rfl rfl
instance fn50 : FnIs Tryd.prog 50 := .of Tryd.func50 rfl rfl
instance fn51 : FnIs Tryd.prog 51 := .of Tryd.func51 rfl rfl
instance fn52 : FnIs Tryd.prog 52 := .of Tryd.func52 rfl rfl
instance fn53 : FnIs Tryd.prog 53 := .of Tryd.func53 rfl rfl
instance fn54 : FnIs Tryd.prog 54 := .of Tryd.func54 rfl rfl
instance fn55 : FnIs Tryd.prog 55 := .of Tryd.func55 rfl rfl
instance fn56 : FnIs Tryd.prog 56 := .of Tryd.func56 rfl rfl
instance fn57 : FnIs Tryd.prog 57 := .of Tryd.func57 rfl rfl
instance fn58 : FnIs Tryd.prog 58 := .of Tryd.func58 rfl rfl
instance fn59 : FnIs Tryd.prog 59 := .of Tryd.func59 rfl rfl
instance fn60 : FnIs Tryd.prog 60 := .of Tryd.func60 rfl rfl
instance fn61 : FnIs Tryd.prog 61 := .of Tryd.func61 rfl rfl
instance fn62 : FnIs Tryd.prog 62 := .of Tryd.func62 rfl rfl
instance fn63 : FnIs Tryd.prog 63 := .of Tryd.func63 rfl rfl
instance fn64 : FnIs Tryd.prog 64 := .of Tryd.func64 rfl rfl
instance fn65 : FnIs Tryd.prog 65 := .of Tryd.func65 rfl rfl
instance fn66 : FnIs Tryd.prog 66 := .of Tryd.func66 rfl rfl
instance fn67 : FnIs Tryd.prog 67 := .of Tryd.func67 rfl rfl
instance fn70 : FnIs Tryd.prog 70 := .of Tryd.func70 rfl rfl
instance fn71 : FnIs Tryd.prog 71 := .of Tryd.func71 rfl rfl
instance fn72 : FnIs Tryd.prog 72 := .of Tryd.func72 rfl rfl
instance fn73 : FnIs Tryd.prog 73 := .of Tryd.func73 rfl rfl
instance fn74 : FnIs Tryd.prog 74 := .of Tryd.func74 rfl rfl
instance fn75 : FnIs Tryd.prog 75 := .of Tryd.func75 rfl rfl
instance fn76 : FnIs Tryd.prog 76 := .of Tryd.func76 rfl rfl
instance fn77 : FnIs Tryd.prog 77 := .of Tryd.func77 rfl rfl
instance fn78 : FnIs Tryd.prog 78 := .of Tryd.func78 rfl rfl
instance fn79 : FnIs Tryd.prog 79 := .of Tryd.func79 rfl rfl
instance fn80 : FnIs Tryd.prog 80 := .of Tryd.func80 rfl rfl
instance fn81 : FnIs Tryd.prog 81 := .of Tryd.func81 rfl rfl
instance fn82 : FnIs Tryd.prog 82 := .of Tryd.func82 rfl rfl
instance fn83 : FnIs Tryd.prog 83 := .of Tryd.func83 rfl rfl
instance fn84 : FnIs Tryd.prog 84 := .of Tryd.func84 rfl rfl
instance fn85 : FnIs Tryd.prog 85 := .of Tryd.func85 rfl rfl
instance fn86 : FnIs Tryd.prog 86 := .of Tryd.func86 rfl rfl
instance fn87 : FnIs Tryd.prog 87 := .of Tryd.func87 rfl rfl
instance fn88 : FnIs Tryd.prog 88 := .of Tryd.func88 rfl rfl
instance fn89 : FnIs Tryd.prog 89 := .of Tryd.func89 rfl rfl
instance fn90 : FnIs Tryd.prog 90 := .of Tryd.func90 rfl rfl
instance fn91 : FnIs Tryd.prog 91 := .of Tryd.func91 rfl rfl
instance fn92 : FnIs Tryd.prog 92 := .of Tryd.func92 rfl rfl
instance fn93 : FnIs Tryd.prog 93 := .of Tryd.func93 rfl rfl
instance fn95 : FnIs Tryd.prog 95 := .of Tryd.func95 rfl rfl
instance fn96 : FnIs Tryd.prog 96 := .of Tryd.func96 rfl rfl
instance fn98 : FnIs Tryd.prog 98 := .of Tryd.func98 rfl rfl
instance fn124 : FnIs Tryd.prog 124 := .of Tryd.func124 rfl rfl
theorem mixed : Tryd.prog.follows .mixedOrders = true := by kernel_rfl
end Go.Proofs.YtffhjgojhmjnnaaDoor
