/- What the types of the translation are, and which functions may be called: closed facts, by program. -/
import Derived.Test.YtmhbibfkhbaclaaGreatDoorK2
import Derived.Test.YtmhbibfkhbaclaaGreatDoorProg
namespace Go.Proofs.YtmhbibfkhbaclaaGreatDoor
open Go E
set_option maxRecDepth 100000
instance ty1 : TyIs Tryz.prog 1 (Go.TypeDesc.func #[] #[] false) 1 8 .nilFunc := .of (by kernel_rfl) Tryz.underlying1 rfl
instance ty2 : TyIs Tryz.prog 2 (Go.TypeDesc.int Go.IntKind.i64) 1 8 (.int .i64 0) := .of (by kernel_rfl) Tryz.underlying2 rfl
instance ty3 : TyIs Tryz.prog 3 (Go.TypeDesc.int Go.IntKind.i64) 1 8 (.int .i64 0) := .of (by kernel_rfl) Tryz.underlying3 rfl
instance ty4 : TyIs Tryz.prog 4 Go.TypeDesc.bool 1 1 (.bool false) := .of (by kernel_rfl) Tryz.underlying4 rfl
instance ty5 : TyIs Tryz.prog 5 (Go.TypeDesc.int Go.IntKind.u8) 1 1 (.int .u8 0) := .of (by kernel_rfl) Tryz.underlying5 rfl
instance ty6 : TyIs Tryz.prog 6 (Go.TypeDesc.int Go.IntKind.u8) 1 1 (.int .u8 0) := .of (by kernel_rfl) Tryz.underlying6 rfl
instance ty7 : TyIs Tryz.prog 7 (Go.TypeDesc.struct #[{ name := "x", type := 2, offset := 0, embedded := false, tag := "", pkgPath := "runtime", byteOffset := 0 }, { name := "y", type := 3, offset := 1, embedded := false, tag := "", pkgPath := "runtime", byteOffset := 8 }, { name := "signed", type := 4, offset := 2, embedded := false, tag := "", pkgPath := "runtime", byteOffset := 16 }, { name := "code", type := 6, offset := 3, embedded := false, tag := "", pkgPath := "runtime", byteOffset := 17 }]) 4 24 (.agg #[(.int .i64 0), (.int .i64 0), (.bool false), (.int .u8 0)]) := .of (by kernel_rfl) Tryz.underlying7 rfl
instance ty8 : TyIs Tryz.prog 8 (Go.TypeDesc.struct #[{ name := "x", type := 2, offset := 0, embedded := false, tag := "", pkgPath := "runtime", byteOffset := 0 }, { name := "y", type := 3, offset := 1, embedded := false, tag := "", pkgPath := "runtime", byteOffset := 8 }, { name := "signed", type := 4, offset := 2, embedded := false, tag := "", pkgPath := "runtime", byteOffset := 16 }, { name := "code", type := 6, offset := 3, embedded := false, tag := "", pkgPath := "runtime", byteOffset := 17 }]) 4 24 (.agg #[(.int .i64 0), (.int .i64 0), (.bool false), (.int .u8 0)]) := .of (by kernel_rfl) Tryz.underlying8 rfl
instance ty9 : TyIs Tryz.prog 9 Go.TypeDesc.string 1 16 (.string ⟨#[]⟩) := .of (by kernel_rfl) Tryz.underlying9 rfl
instance ty10 : TyIs Tryz.prog 10 Go.TypeDesc.string 1 16 (.string ⟨#[]⟩) := .of (by kernel_rfl) Tryz.underlying10 rfl
instance ty11 : TyIs Tryz.prog 11 Go.TypeDesc.string 1 16 (.string ⟨#[]⟩) := .of (by kernel_rfl) Tryz.underlying11 rfl
instance ty12 : TyIs Tryz.prog 12 (Go.TypeDesc.int Go.IntKind.u64) 1 8 (.int .u64 0) := .of (by kernel_rfl) Tryz.underlying12 rfl
instance ty13 : TyIs Tryz.prog 13 (Go.TypeDesc.struct #[{ name := "msg", type := 9, offset := 0, embedded := false, tag := "", pkgPath := "runtime", byteOffset := 0 }, { name := "addr", type := 12, offset := 1, embedded := false, tag := "", pkgPath := "runtime", byteOffset := 16 }]) 2 24 (.agg #[(.string ⟨#[]⟩), (.int .u64 0)]) := .of (by kernel_rfl) Tryz.underlying13 rfl
instance ty14 : TyIs Tryz.prog 14 (Go.TypeDesc.struct #[{ name := "msg", type := 9, offset := 0, embedded := false, tag := "", pkgPath := "runtime", byteOffset := 0 }, { name := "addr", type := 12, offset := 1, embedded := false, tag := "", pkgPath := "runtime", byteOffset := 16 }]) 2 24 (.agg #[(.string ⟨#[]⟩), (.int .u64 0)]) := .of (by kernel_rfl) Tryz.underlying14 rfl
instance ty15 : TyIs Tryz.prog 15 (Go.TypeDesc.pointer 153) 1 8 (.pointer none) := .of (by kernel_rfl) Tryz.underlying15 rfl
instance ty16 : TyIs Tryz.prog 16 (Go.TypeDesc.pointer 156) 1 8 (.pointer none) := .of (by kernel_rfl) Tryz.underlying16 rfl
instance ty17 : TyIs Tryz.prog 17 (Go.TypeDesc.pointer 163) 1 8 (.pointer none) := .of (by kernel_rfl) Tryz.underlying17 rfl
instance ty18 : TyIs Tryz.prog 18 (Go.TypeDesc.struct #[{ name := "typ", type := 17, offset := 0, embedded := false, tag := "", pkgPath := "internal/runtime/maps", byteOffset := 0 }]) 1 8 (.agg #[(.pointer none)]) := .of (by kernel_rfl) Tryz.underlying18 rfl
instance ty19 : TyIs Tryz.prog 19 (Go.TypeDesc.struct #[{ name := "typ", type := 17, offset := 0, embedded := false, tag := "", pkgPath := "internal/runtime/maps", byteOffset := 0 }]) 1 8 (.agg #[(.pointer none)]) := .of (by kernel_rfl) Tryz.underlying19 rfl
instance ty20 : TyIs Tryz.prog 20 (Go.TypeDesc.interface #[]) 1 16 .nilIface := .of (by kernel_rfl) Tryz.underlying20 rfl
instance ty21 : TyIs Tryz.prog 21 (Go.TypeDesc.int Go.IntKind.i32) 1 4 (.int .i32 0) := .of (by kernel_rfl) Tryz.underlying21 rfl
instance ty22 : TyIs Tryz.prog 22 (Go.TypeDesc.slice 9) 1 24 (.slice none 0 0) := .of (by kernel_rfl) Tryz.underlying22 rfl
instance ty23 : TyIs Tryz.prog 23 (Go.TypeDesc.slice 25) 1 24 (.slice none 0 0) := .of (by kernel_rfl) Tryz.underlying23 rfl
instance ty24 : TyIs Tryz.prog 24 (Go.TypeDesc.struct #[{ name := "Kind", type := 3, offset := 0, embedded := false, tag := "", pkgPath := "", byteOffset := 0 }, { name := "Names", type := 22, offset := 1, embedded := false, tag := "", pkgPath := "", byteOffset := 8 }, { name := "L", type := 23, offset := 2, embedded := false, tag := "", pkgPath := "", byteOffset := 32 }, { name := "R", type := 3, offset := 3, embedded := false, tag := "", pkgPath := "", byteOffset := 56 }]) 4 64 (.agg #[(.int .i64 0), (.slice none 0 0), (.slice none 0 0), (.int .i64 0)]) := .of (by kernel_rfl) Tryz.underlying24 rfl
instance ty25 : TyIs Tryz.prog 25 (Go.TypeDesc.struct #[{ name := "Kind", type := 3, offset := 0, embedded := false, tag := "", pkgPath := "", byteOffset := 0 }, { name := "Names", type := 22, offset := 1, embedded := false, tag := "", pkgPath := "", byteOffset := 8 }, { name := "L", type := 23, offset := 2, embedded := false, tag := "", pkgPath := "", byteOffset := 32 }, { name := "R", type := 3, offset := 3, embedded := false, tag := "", pkgPath := "", byteOffset := 56 }]) 4 64 (.agg #[(.int .i64 0), (.slice none 0 0), (.slice none 0 0), (.int .i64 0)]) := .of (by kernel_rfl) Tryz.underlying25 rfl
instance ty26 : TyIs Tryz.prog 26 (Go.TypeDesc.slice 3) 1 24 (.slice none 0 0) := .of (by kernel_rfl) Tryz.underlying26 rfl
instance ty27 : TyIs Tryz.prog 27 (Go.TypeDesc.slice 29) 1 24 (.slice none 0 0) := .of (by kernel_rfl) Tryz.underlying27 rfl
instance ty28 : TyIs Tryz.prog 28 (Go.TypeDesc.struct #[{ name := "N", type := 3, offset := 0, embedded := false, tag := "", pkgPath := "", byteOffset := 0 }, { name := "S", type := 26, offset := 1, embedded := false, tag := "", pkgPath := "", byteOffset := 8 }, { name := "L", type := 27, offset := 2, embedded := false, tag := "", pkgPath := "", byteOffset := 32 }]) 3 56 (.agg #[(.int .i64 0), (.slice none 0 0), (.slice none 0 0)]) := .of (by kernel_rfl) Tryz.underlying28 rfl
instance ty29 : TyIs Tryz.prog 29 (Go.TypeDesc.struct #[{ name := "N", type := 3, offset := 0, embedded := false, tag := "", pkgPath := "", byteOffset := 0 }, { name := "S", type := 26, offset := 1, embedded := false, tag := "", pkgPath := "", byteOffset := 8 }, { name := "L", type := 27, offset := 2, embedded := false, tag := "", pkgPath := "", byteOffset := 32 }]) 3 56 (.agg #[(.int .i64 0), (.slice none 0 0), (.slice none 0 0)]) := .of (by kernel_rfl) Tryz.underlying29 rfl
instance ty30 : TyIs Tryz.prog 30 (Go.TypeDesc.func #[29] #[4] false) 1 8 .nilFunc := .of (by kernel_rfl) Tryz.underlying30 rfl
instance ty31 : TyIs Tryz.prog 31 (Go.TypeDesc.func #[] #[4] false) 1 8 .nilFunc := .of (by kernel_rfl) Tryz.underlying31 rfl
instance ty32 : TyIs Tryz.prog 32 (Go.TypeDesc.int Go.IntKind.i64) 1 8 (.int .i64 0) := .of (by kernel_rfl) Tryz.underlying32 rfl
instance ty34 : TyIs Tryz.prog 34 (Go.TypeDesc.func #[25, 29, 26] #[29, 32] true) 1 8 .nilFunc := .of (by kernel_rfl) Tryz.underlying34 rfl
instance ty35 : TyIs Tryz.prog 35 (Go.TypeDesc.func #[25, 29] #[3] false) 1 8 .nilFunc := .of (by kernel_rfl) Tryz.underlying35 rfl
instance ty36 : TyIs Tryz.prog 36 (Go.TypeDesc.func #[29, 29] #[4] false) 1 8 .nilFunc := .of (by kernel_rfl) Tryz.underlying36 rfl
instance ty38 : TyIs Tryz.prog 38 (Go.TypeDesc.func #[25, 29] #[23, 26] false) 1 8 .nilFunc := .of (by kernel_rfl) Tryz.underlying38 rfl
instance ty40 : TyIs Tryz.prog 40 (Go.TypeDesc.func #[25, 29, 26] #[29, 26] false) 1 8 .nilFunc := .of (by kernel_rfl) Tryz.underlying40 rfl
instance ty41 : TyIs Tryz.prog 41 (Go.TypeDesc.func #[26, 26] #[4] false) 1 8 .nilFunc := .of (by kernel_rfl) Tryz.underlying41 rfl
instance ty42 : TyIs Tryz.prog 42 (Go.TypeDesc.func #[25, 29] #[32] false) 1 8 .nilFunc := .of (by kernel_rfl) Tryz.underlying42 rfl
instance ty43 : TyIs Tryz.prog 43 (Go.TypeDesc.func #[25, 29, 26] #[4] false) 1 8 .nilFunc := .of (by kernel_rfl) Tryz.underlying43 rfl
instance ty44 : TyIs Tryz.prog 44 (Go.TypeDesc.func #[29, 3] #[3] false) 1 8 .nilFunc := .of (by kernel_rfl) Tryz.underlying44 rfl
instance ty46 : TyIs Tryz.prog 46 (Go.TypeDesc.func #[25, 29] #[9, 32] false) 1 8 .nilFunc := .of (by kernel_rfl) Tryz.underlying46 rfl
instance ty47 : TyIs Tryz.prog 47 (Go.TypeDesc.func #[26, 48] #[4] false) 1 8 .nilFunc := .of (by kernel_rfl) Tryz.underlying47 rfl
instance ty48 : TyIs Tryz.prog 48 (Go.TypeDesc.func #[3] #[4] false) 1 8 .nilFunc := .of (by kernel_rfl) Tryz.underlying48 rfl
instance ty49 : TyIs Tryz.prog 49 (Go.TypeDesc.func #[25] #[4] false) 1 8 .nilFunc := .of (by kernel_rfl) Tryz.underlying49 rfl
instance ty50 : TyIs Tryz.prog 50 (Go.TypeDesc.func #[27, 27, 36] #[4] false) 1 8 .nilFunc := .of (by kernel_rfl) Tryz.underlying50 rfl
instance ty52 : TyIs Tryz.prog 52 (Go.TypeDesc.func #[25, 29] #[23, 4] false) 1 8 .nilFunc := .of (by kernel_rfl) Tryz.underlying52 rfl
instance ty53 : TyIs Tryz.prog 53 (Go.TypeDesc.func #[25] #[32] false) 1 8 .nilFunc := .of (by kernel_rfl) Tryz.underlying53 rfl
instance ty54 : TyIs Tryz.prog 54 (Go.TypeDesc.func #[25, 29] #[9] false) 1 8 .nilFunc := .of (by kernel_rfl) Tryz.underlying54 rfl
instance ty55 : TyIs Tryz.prog 55 (Go.TypeDesc.func #[25, 29, 3] #[25] false) 1 8 .nilFunc := .of (by kernel_rfl) Tryz.underlying55 rfl
instance ty56 : TyIs Tryz.prog 56 (Go.TypeDesc.func #[26, 48] #[3] false) 1 8 .nilFunc := .of (by kernel_rfl) Tryz.underlying56 rfl
instance ty57 : TyIs Tryz.prog 57 (Go.TypeDesc.func #[26] #[26] false) 1 8 .nilFunc := .of (by kernel_rfl) Tryz.underlying57 rfl
instance ty58 : TyIs Tryz.prog 58 (Go.TypeDesc.func #[25, 3] #[4] false) 1 8 .nilFunc := .of (by kernel_rfl) Tryz.underlying58 rfl
instance ty59 : TyIs Tryz.prog 59 (Go.TypeDesc.func #[25] #[3] false) 1 8 .nilFunc := .of (by kernel_rfl) Tryz.underlying59 rfl
instance ty60 : TyIs Tryz.prog 60 (Go.TypeDesc.func #[3, 3] #[3] false) 1 8 .nilFunc := .of (by kernel_rfl) Tryz.underlying60 rfl
instance ty61 : TyIs Tryz.prog 61 (Go.TypeDesc.func #[25] #[25] false) 1 8 .nilFunc := .of (by kernel_rfl) Tryz.underlying61 rfl
instance ty62 : TyIs Tryz.prog 62 (Go.TypeDesc.func #[25, 3] #[3] false) 1 8 .nilFunc := .of (by kernel_rfl) Tryz.underlying62 rfl
instance ty64 : TyIs Tryz.prog 64 (Go.TypeDesc.func #[3] #[3, 3, 4] false) 1 8 .nilFunc := .of (by kernel_rfl) Tryz.underlying64 rfl
instance ty65 : TyIs Tryz.prog 65 (Go.TypeDesc.func #[23, 27] #[3] false) 1 8 .nilFunc := .of (by kernel_rfl) Tryz.underlying65 rfl
instance ty66 : TyIs Tryz.prog 66 (Go.TypeDesc.func #[23, 3] #[23] false) 1 8 .nilFunc := .of (by kernel_rfl) Tryz.underlying66 rfl
instance ty67 : TyIs Tryz.prog 67 (Go.TypeDesc.func #[3] #[25] false) 1 8 .nilFunc := .of (by kernel_rfl) Tryz.underlying67 rfl
instance ty68 : TyIs Tryz.prog 68 (Go.TypeDesc.func #[22, 9] #[9] false) 1 8 .nilFunc := .of (by kernel_rfl) Tryz.underlying68 rfl
instance ty69 : TyIs Tryz.prog 69 (Go.TypeDesc.func #[67] #[9] false) 1 8 .nilFunc := .of (by kernel_rfl) Tryz.underlying69 rfl
instance ty70 : TyIs Tryz.prog 70 (Go.TypeDesc.func #[4] #[9] false) 1 8 .nilFunc := .of (by kernel_rfl) Tryz.underlying70 rfl
instance ty71 : TyIs Tryz.prog 71 (Go.TypeDesc.func #[72, 3] #[9] false) 1 8 .nilFunc := .of (by kernel_rfl) Tryz.underlying71 rfl
instance ty72 : TyIs Tryz.prog 72 (Go.TypeDesc.int Go.IntKind.u64) 1 8 (.int .u64 0) := .of (by kernel_rfl) Tryz.underlying72 rfl
instance ty73 : TyIs Tryz.prog 73 (Go.TypeDesc.func #[9] #[9] false) 1 8 .nilFunc := .of (by kernel_rfl) Tryz.underlying73 rfl
instance ty74 : TyIs Tryz.prog 74 (Go.TypeDesc.func #[2, 3] #[9] false) 1 8 .nilFunc := .of (by kernel_rfl) Tryz.underlying74 rfl
instance ty75 : TyIs Tryz.prog 75 (Go.TypeDesc.func #[26] #[9] false) 1 8 .nilFunc := .of (by kernel_rfl) Tryz.underlying75 rfl
instance ty76 : TyIs Tryz.prog 76 (Go.TypeDesc.func #[3] #[9] false) 1 8 .nilFunc := .of (by kernel_rfl) Tryz.underlying76 rfl
instance ty77 : TyIs Tryz.prog 77 (Go.TypeDesc.func #[22] #[4] false) 1 8 .nilFunc := .of (by kernel_rfl) Tryz.underlying77 rfl
instance ty78 : TyIs Tryz.prog 78 (Go.TypeDesc.int Go.IntKind.u64) 1 8 (.int .u64 0) := .of (by kernel_rfl) Tryz.underlying78 rfl
instance ty80 : TyIs Tryz.prog 80 (Go.TypeDesc.func #[78, 78] #[78, 78] false) 1 8 .nilFunc := .of (by kernel_rfl) Tryz.underlying80 rfl
instance ty81 : TyIs Tryz.prog 81 (Go.TypeDesc.func #[22] #[22] false) 1 8 .nilFunc := .of (by kernel_rfl) Tryz.underlying81 rfl
instance ty82 : TyIs Tryz.prog 82 (Go.TypeDesc.func #[23] #[23] false) 1 8 .nilFunc := .of (by kernel_rfl) Tryz.underlying82 rfl
instance ty83 : TyIs Tryz.prog 83 (Go.TypeDesc.pointer 86) 1 8 (.pointer none) := .of (by kernel_rfl) Tryz.underlying83 rfl
instance ty84 : TyIs Tryz.prog 84 (Go.TypeDesc.slice 5) 1 24 (.slice none 0 0) := .of (by kernel_rfl) Tryz.underlying84 rfl
instance ty85 : TyIs Tryz.prog 85 (Go.TypeDesc.struct #[{ name := "addr", type := 83, offset := 0, embedded := false, tag := "", pkgPath := "strings", byteOffset := 0 }, { name := "buf", type := 84, offset := 1, embedded := false, tag := "", pkgPath := "strings", byteOffset := 8 }]) 2 32 (.agg #[(.pointer none), (.slice none 0 0)]) := .of (by kernel_rfl) Tryz.underlying85 rfl
instance ty86 : TyIs Tryz.prog 86 (Go.TypeDesc.struct #[{ name := "addr", type := 83, offset := 0, embedded := false, tag := "", pkgPath := "strings", byteOffset := 0 }, { name := "buf", type := 84, offset := 1, embedded := false, tag := "", pkgPath := "strings", byteOffset := 8 }]) 2 32 (.agg #[(.pointer none), (.slice none 0 0)]) := .of (by kernel_rfl) Tryz.underlying86 rfl
instance ty87 : TyIs Tryz.prog 87 (Go.TypeDesc.func #[3] #[] false) 1 8 .nilFunc := .of (by kernel_rfl) Tryz.underlying87 rfl
instance ty88 : TyIs Tryz.prog 88 (Go.TypeDesc.interface #[("Error", 92)]) 1 16 .nilIface := .of (by kernel_rfl) Tryz.underlying88 rfl
instance ty89 : TyIs Tryz.prog 89 (Go.TypeDesc.interface #[("Error", 92)]) 1 16 .nilIface := .of (by kernel_rfl) Tryz.underlying89 rfl
instance ty91 : TyIs Tryz.prog 91 (Go.TypeDesc.func #[9] #[3, 89] false) 1 8 .nilFunc := .of (by kernel_rfl) Tryz.underlying91 rfl
instance ty92 : TyIs Tryz.prog 92 (Go.TypeDesc.func #[] #[9] false) 1 8 .nilFunc := .of (by kernel_rfl) Tryz.underlying92 rfl
instance ty93 : TyIs Tryz.prog 93 (Go.TypeDesc.func #[5] #[89] false) 1 8 .nilFunc := .of (by kernel_rfl) Tryz.underlying93 rfl
instance ty94 : TyIs Tryz.prog 94 (Go.TypeDesc.func #[95, 9] #[9] false) 1 8 .nilFunc := .of (by kernel_rfl) Tryz.underlying94 rfl
instance ty95 : TyIs Tryz.prog 95 (Go.TypeDesc.func #[21] #[21] false) 1 8 .nilFunc := .of (by kernel_rfl) Tryz.underlying95 rfl
instance ty96 : TyIs Tryz.prog 96 (Go.TypeDesc.func #[22, 3] #[4] false) 1 8 .nilFunc := .of (by kernel_rfl) Tryz.underlying96 rfl
instance ty97 : TyIs Tryz.prog 97 (Go.TypeDesc.func #[9] #[4] false) 1 8 .nilFunc := .of (by kernel_rfl) Tryz.underlying97 rfl
instance ty98 : TyIs Tryz.prog 98 (Go.TypeDesc.func #[22, 9] #[4] false) 1 8 .nilFunc := .of (by kernel_rfl) Tryz.underlying98 rfl
instance ty99 : TyIs Tryz.prog 99 (Go.TypeDesc.int Go.IntKind.u32) 1 4 (.int .u32 0) := .of (by kernel_rfl) Tryz.underlying99 rfl
instance ty101 : TyIs Tryz.prog 101 (Go.TypeDesc.func #[99, 99] #[99, 99] false) 1 8 .nilFunc := .of (by kernel_rfl) Tryz.underlying101 rfl
instance ty103 : TyIs Tryz.prog 103 (Go.TypeDesc.func #[72, 72] #[72, 72] false) 1 8 .nilFunc := .of (by kernel_rfl) Tryz.underlying103 rfl
instance ty104 : TyIs Tryz.prog 104 (Go.TypeDesc.pointer 5) 1 8 (.pointer none) := .of (by kernel_rfl) Tryz.underlying104 rfl
instance ty105 : TyIs Tryz.prog 105 (Go.TypeDesc.array 24 5) 24 24 (.agg #[(.int .u8 0), (.int .u8 0), (.int .u8 0), (.int .u8 0), (.int .u8 0), (.int .u8 0), (.int .u8 0), (.int .u8 0), (.int .u8 0), (.int .u8 0), (.int .u8 0), (.int .u8 0), (.int .u8 0), (.int .u8 0), (.int .u8 0), (.int .u8 0), (.int .u8 0), (.int .u8 0), (.int .u8 0), (.int .u8 0), (.int .u8 0), (.int .u8 0), (.int .u8 0), (.int .u8 0)]) := .of (by kernel_rfl) Tryz.underlying105 rfl
instance ty106 : TyIs Tryz.prog 106 (Go.TypeDesc.func #[72] #[3] false) 1 8 .nilFunc := .of (by kernel_rfl) Tryz.underlying106 rfl
instance ty107 : TyIs Tryz.prog 107 (Go.TypeDesc.func #[84, 72] #[] false) 1 8 .nilFunc := .of (by kernel_rfl) Tryz.underlying107 rfl
instance ty109 : TyIs Tryz.prog 109 (Go.TypeDesc.func #[84, 72, 3, 4, 4] #[84, 9] false) 1 8 .nilFunc := .of (by kernel_rfl) Tryz.underlying109 rfl
instance ty111 : TyIs Tryz.prog 111 (Go.TypeDesc.func #[9] #[21, 3] false) 1 8 .nilFunc := .of (by kernel_rfl) Tryz.underlying111 rfl
instance ty112 : TyIs Tryz.prog 112 (Go.TypeDesc.func #[21] #[3] false) 1 8 .nilFunc := .of (by kernel_rfl) Tryz.underlying112 rfl
instance ty113 : TyIs Tryz.prog 113 (Go.TypeDesc.func #[21] #[3, 89] false) 1 8 .nilFunc := .of (by kernel_rfl) Tryz.underlying113 rfl
instance ty114 : TyIs Tryz.prog 114 (Go.TypeDesc.func #[] #[3] false) 1 8 .nilFunc := .of (by kernel_rfl) Tryz.underlying114 rfl
instance ty115 : TyIs Tryz.prog 115 (Go.TypeDesc.func #[3, 21] #[21] false) 1 8 .nilFunc := .of (by kernel_rfl) Tryz.underlying115 rfl
instance ty116 : TyIs Tryz.prog 116 (Go.TypeDesc.func #[97] #[] false) 1 8 .nilFunc := .of (by kernel_rfl) Tryz.underlying116 rfl
instance ty117 : TyIs Tryz.prog 117 (Go.TypeDesc.func #[97] #[] false) 1 8 .nilFunc := .of (by kernel_rfl) Tryz.underlying117 rfl
instance ty118 : TyIs Tryz.prog 118 (Go.TypeDesc.func #[9, 9] #[117] false) 1 8 .nilFunc := .of (by kernel_rfl) Tryz.underlying118 rfl
instance ty119 : TyIs Tryz.prog 119 (Go.TypeDesc.func #[22, 9] #[3] false) 1 8 .nilFunc := .of (by kernel_rfl) Tryz.underlying119 rfl
instance ty120 : TyIs Tryz.prog 120 Go.TypeDesc.unsafePointer 1 8 (.pointer none) := .of (by kernel_rfl) Tryz.underlying120 rfl
instance ty121 : TyIs Tryz.prog 121 (Go.TypeDesc.func #[120] #[120] false) 1 8 .nilFunc := .of (by kernel_rfl) Tryz.underlying121 rfl
instance ty122 : TyIs Tryz.prog 122 (Go.TypeDesc.func #[3] #[84] false) 1 8 .nilFunc := .of (by kernel_rfl) Tryz.underlying122 rfl
instance ty123 : TyIs Tryz.prog 123 (Go.TypeDesc.func #[3] #[3] false) 1 8 .nilFunc := .of (by kernel_rfl) Tryz.underlying123 rfl
instance ty124 : TyIs Tryz.prog 124 (Go.TypeDesc.func #[4] #[3] false) 1 8 .nilFunc := .of (by kernel_rfl) Tryz.underlying124 rfl
instance ty125 : TyIs Tryz.prog 125 (Go.TypeDesc.array 20 72) 20 160 (.agg #[(.int .u64 0), (.int .u64 0), (.int .u64 0), (.int .u64 0), (.int .u64 0), (.int .u64 0), (.int .u64 0), (.int .u64 0), (.int .u64 0), (.int .u64 0), (.int .u64 0), (.int .u64 0), (.int .u64 0), (.int .u64 0), (.int .u64 0), (.int .u64 0), (.int .u64 0), (.int .u64 0), (.int .u64 0), (.int .u64 0)]) := .of (by kernel_rfl) Tryz.underlying125 rfl
instance ty126 : TyIs Tryz.prog 126 (Go.TypeDesc.array 65 5) 65 65 (.agg #[(.int .u8 0), (.int .u8 0), (.int .u8 0), (.int .u8 0), (.int .u8 0), (.int .u8 0), (.int .u8 0), (.int .u8 0), (.int .u8 0), (.int .u8 0), (.int .u8 0), (.int .u8 0), (.int .u8 0), (.int .u8 0), (.int .u8 0), (.int .u8 0), (.int .u8 0), (.int .u8 0), (.int .u8 0), (.int .u8 0), (.int .u8 0), (.int .u8 0), (.int .u8 0), (.int .u8 0), (.int .u8 0), (.int .u8 0), (.int .u8 0), (.int .u8 0), (.int .u8 0), (.int .u8 0), (.int .u8 0), (.int .u8 0), (.int .u8 0), (.int .u8 0), (.int .u8 0), (.int .u8 0), (.int .u8 0), (.int .u8 0), (.int .u8 0), (.int .u8 0), (.int .u8 0), (.int .u8 0), (.int .u8 0), (.int .u8 0), (.int .u8 0), (.int .u8 0), (.int .u8 0), (.int .u8 0), (.int .u8 0), (.int .u8 0), (.int .u8 0), (.int .u8 0), (.int .u8 0), (.int .u8 0), (.int .u8 0), (.int .u8 0), (.int .u8 0), (.int .u8 0), (.int .u8 0), (.int .u8 0), (.int .u8 0), (.int .u8 0), (.int .u8 0), (.int .u8 0), (.int .u8 0)]) := .of (by kernel_rfl) Tryz.underlying126 rfl
instance ty127 : TyIs Tryz.prog 127 (Go.TypeDesc.func #[78] #[3] false) 1 8 .nilFunc := .of (by kernel_rfl) Tryz.underlying127 rfl
instance ty128 : TyIs Tryz.prog 128 (Go.TypeDesc.func #[84, 21] #[84] false) 1 8 .nilFunc := .of (by kernel_rfl) Tryz.underlying128 rfl
instance ty130 : TyIs Tryz.prog 130 (Go.TypeDesc.func #[3, 21, 131] #[21, 4] false) 1 8 .nilFunc := .of (by kernel_rfl) Tryz.underlying130 rfl
instance ty131 : TyIs Tryz.prog 131 (Go.TypeDesc.slice 149) 1 24 (.slice none 0 0) := .of (by kernel_rfl) Tryz.underlying131 rfl
instance ty132 : TyIs Tryz.prog 132 (Go.TypeDesc.func #[5] #[3] false) 1 8 .nilFunc := .of (by kernel_rfl) Tryz.underlying132 rfl
instance ty133 : TyIs Tryz.prog 133 (Go.TypeDesc.func #[9, 9, 3] #[117] false) 1 8 .nilFunc := .of (by kernel_rfl) Tryz.underlying133 rfl
instance ty134 : TyIs Tryz.prog 134 (Go.TypeDesc.func #[5] #[4] false) 1 8 .nilFunc := .of (by kernel_rfl) Tryz.underlying134 rfl
instance ty135 : TyIs Tryz.prog 135 (Go.TypeDesc.func #[99] #[3] false) 1 8 .nilFunc := .of (by kernel_rfl) Tryz.underlying135 rfl
instance ty136 : TyIs Tryz.prog 136 (Go.TypeDesc.array 256 5) 256 256 (.agg #[(.int .u8 0), (.int .u8 0), (.int .u8 0), (.int .u8 0), (.int .u8 0), (.int .u8 0), (.int .u8 0), (.int .u8 0), (.int .u8 0), (.int .u8 0), (.int .u8 0), (.int .u8 0), (.int .u8 0), (.int .u8 0), (.int .u8 0), (.int .u8 0), (.int .u8 0), (.int .u8 0), (.int .u8 0), (.int .u8 0), (.int .u8 0), (.int .u8 0), (.int .u8 0), (.int .u8 0), (.int .u8 0), (.int .u8 0), (.int .u8 0), (.int .u8 0), (.int .u8 0), (.int .u8 0), (.int .u8 0), (.int .u8 0), (.int .u8 0), (.int .u8 0), (.int .u8 0), (.int .u8 0), (.int .u8 0), (.int .u8 0), (.int .u8 0), (.int .u8 0), (.int .u8 0), (.int .u8 0), (.int .u8 0), (.int .u8 0), (.int .u8 0), (.int .u8 0), (.int .u8 0), (.int .u8 0), (.int .u8 0), (.int .u8 0), (.int .u8 0), (.int .u8 0), (.int .u8 0), (.int .u8 0), (.int .u8 0), (.int .u8 0), (.int .u8 0), (.int .u8 0), (.int .u8 0), (.int .u8 0), (.int .u8 0), (.int .u8 0), (.int .u8 0), (.int .u8 0), (.int .u8 0), (.int .u8 0), (.int .u8 0), (.int .u8 0), (.int .u8 0), (.int .u8 0), (.int .u8 0), (.int .u8 0), (.int .u8 0), (.int .u8 0), (.int .u8 0), (.int .u8 0), (.int .u8 0), (.int .u8 0), (.int .u8 0), (.int .u8 0), (.int .u8 0), (.int .u8 0), (.int .u8 0), (.int .u8 0), (.int .u8 0), (.int .u8 0), (.int .u8 0), (.int .u8 0), (.int .u8 0), (.int .u8 0), (.int .u8 0), (.int .u8 0), (.int .u8 0), (.int .u8 0), (.int .u8 0), (.int .u8 0), (.int .u8 0), (.int .u8 0), (.int .u8 0), (.int .u8 0), (.int .u8 0), (.int .u8 0), (.int .u8 0), (.int .u8 0), (.int .u8 0), (.int .u8 0), (.int .u8 0), (.int .u8 0), (.int .u8 0), (.int .u8 0), (.int .u8 0), (.int .u8 0), (.int .u8 0), (.int .u8 0), (.int .u8 0), (.int .u8 0), (.int .u8 0), (.int .u8 0), (.int .u8 0), (.int .u8 0), (.int .u8 0), (.int .u8 0), (.int .u8 0), (.int .u8 0), (.int .u8 0), (.int .u8 0), (.int .u8 0), (.int .u8 0), (.int .u8 0), (.int .u8 0), (.int .u8 0), (.int .u8 0), (.int .u8 0), (.int .u8 0), (.int .u8 0), (.int .u8 0), (.int .u8 0), (.int .u8 0), (.int .u8 0), (.int .u8 0), (.int .u8 0), (.int .u8 0), (.int .u8 0), (.int .u8 0), (.int .u8 0), (.int .u8 0), (.int .u8 0), (.int .u8 0), (.int .u8 0), (.int .u8 0), (.int .u8 0), (.int .u8 0), (.int .u8 0), (.int .u8 0), (.int .u8 0), (.int .u8 0), (.int .u8 0), (.int .u8 0), (.int .u8 0), (.int .u8 0), (.int .u8 0), (.int .u8 0), (.int .u8 0), (.int .u8 0), (.int .u8 0), (.int .u8 0), (.int .u8 0), (.int .u8 0), (.int .u8 0), (.int .u8 0), (.int .u8 0), (.int .u8 0), (.int .u8 0), (.int .u8 0), (.int .u8 0), (.int .u8 0), (.int .u8 0), (.int .u8 0), (.int .u8 0), (.int .u8 0), (.int .u8 0), (.int .u8 0), (.int .u8 0), (.int .u8 0), (.int .u8 0), (.int .u8 0), (.int .u8 0), (.int .u8 0), (.int .u8 0), (.int .u8 0), (.int .u8 0), (.int .u8 0), (.int .u8 0), (.int .u8 0), (.int .u8 0), (.int .u8 0), (.int .u8 0), (.int .u8 0), (.int .u8 0), (.int .u8 0), (.int .u8 0), (.int .u8 0), (.int .u8 0), (.int .u8 0), (.int .u8 0), (.int .u8 0), (.int .u8 0), (.int .u8 0), (.int .u8 0), (.int .u8 0), (.int .u8 0), (.int .u8 0), (.int .u8 0), (.int .u8 0), (.int .u8 0), (.int .u8 0), (.int .u8 0), (.int .u8 0), (.int .u8 0), (.int .u8 0), (.int .u8 0), (.int .u8 0), (.int .u8 0), (.int .u8 0), (.int .u8 0), (.int .u8 0), (.int .u8 0), (.int .u8 0), (.int .u8 0), (.int .u8 0), (.int .u8 0), (.int .u8 0), (.int .u8 0), (.int .u8 0), (.int .u8 0), (.int .u8 0), (.int .u8 0), (.int .u8 0), (.int .u8 0), (.int .u8 0), (.int .u8 0), (.int .u8 0), (.int .u8 0), (.int .u8 0), (.int .u8 0), (.int .u8 0), (.int .u8 0), (.int .u8 0), (.int .u8 0), (.int .u8 0), (.int .u8 0), (.int .u8 0), (.int .u8 0), (.int .u8 0), (.int .u8 0), (.int .u8 0)]) := .of (by kernel_rfl) Tryz.underlying136 rfl
instance ty137 : TyIs Tryz.prog 137 (Go.TypeDesc.struct #[{ name := "lo", type := 5, offset := 0, embedded := false, tag := "", pkgPath := "unicode/utf8", byteOffset := 0 }, { name := "hi", type := 5, offset := 1, embedded := false, tag := "", pkgPath := "unicode/utf8", byteOffset := 1 }]) 2 2 (.agg #[(.int .u8 0), (.int .u8 0)]) := .of (by kernel_rfl) Tryz.underlying137 rfl
instance ty138 : TyIs Tryz.prog 138 (Go.TypeDesc.struct #[{ name := "lo", type := 5, offset := 0, embedded := false, tag := "", pkgPath := "unicode/utf8", byteOffset := 0 }, { name := "hi", type := 5, offset := 1, embedded := false, tag := "", pkgPath := "unicode/utf8", byteOffset := 1 }]) 2 2 (.agg #[(.int .u8 0), (.int .u8 0)]) := .of (by kernel_rfl) Tryz.underlying138 rfl
instance ty139 : TyIs Tryz.prog 139 (Go.TypeDesc.array 16 138) 32 32 (.agg #[(.int .u8 0), (.int .u8 0), (.int .u8 0), (.int .u8 0), (.int .u8 0), (.int .u8 0), (.int .u8 0), (.int .u8 0), (.int .u8 0), (.int .u8 0), (.int .u8 0), (.int .u8 0), (.int .u8 0), (.int .u8 0), (.int .u8 0), (.int .u8 0), (.int .u8 0), (.int .u8 0), (.int .u8 0), (.int .u8 0), (.int .u8 0), (.int .u8 0), (.int .u8 0), (.int .u8 0), (.int .u8 0), (.int .u8 0), (.int .u8 0), (.int .u8 0), (.int .u8 0), (.int .u8 0), (.int .u8 0), (.int .u8 0)]) := .of (by kernel_rfl) Tryz.underlying139 rfl
instance ty140 : TyIs Tryz.prog 140 (Go.TypeDesc.pointer 149) 1 8 (.pointer none) := .of (by kernel_rfl) Tryz.underlying140 rfl
instance ty141 : TyIs Tryz.prog 141 (Go.TypeDesc.func #[21, 131] #[140] false) 1 8 .nilFunc := .of (by kernel_rfl) Tryz.underlying141 rfl
instance ty142 : TyIs Tryz.prog 142 (Go.TypeDesc.func #[3, 21, 140] #[21] false) 1 8 .nilFunc := .of (by kernel_rfl) Tryz.underlying142 rfl
instance ty143 : TyIs Tryz.prog 143 (Go.TypeDesc.func #[9, 9] #[3] false) 1 8 .nilFunc := .of (by kernel_rfl) Tryz.underlying143 rfl
instance ty144 : TyIs Tryz.prog 144 (Go.TypeDesc.array 32 5) 32 32 (.agg #[(.int .u8 0), (.int .u8 0), (.int .u8 0), (.int .u8 0), (.int .u8 0), (.int .u8 0), (.int .u8 0), (.int .u8 0), (.int .u8 0), (.int .u8 0), (.int .u8 0), (.int .u8 0), (.int .u8 0), (.int .u8 0), (.int .u8 0), (.int .u8 0), (.int .u8 0), (.int .u8 0), (.int .u8 0), (.int .u8 0), (.int .u8 0), (.int .u8 0), (.int .u8 0), (.int .u8 0), (.int .u8 0), (.int .u8 0), (.int .u8 0), (.int .u8 0), (.int .u8 0), (.int .u8 0), (.int .u8 0), (.int .u8 0)]) := .of (by kernel_rfl) Tryz.underlying144 rfl
instance ty145 : TyIs Tryz.prog 145 (Go.TypeDesc.array 64 5) 64 64 (.agg #[(.int .u8 0), (.int .u8 0), (.int .u8 0), (.int .u8 0), (.int .u8 0), (.int .u8 0), (.int .u8 0), (.int .u8 0), (.int .u8 0), (.int .u8 0), (.int .u8 0), (.int .u8 0), (.int .u8 0), (.int .u8 0), (.int .u8 0), (.int .u8 0), (.int .u8 0), (.int .u8 0), (.int .u8 0), (.int .u8 0), (.int .u8 0), (.int .u8 0), (.int .u8 0), (.int .u8 0), (.int .u8 0), (.int .u8 0), (.int .u8 0), (.int .u8 0), (.int .u8 0), (.int .u8 0), (.int .u8 0), (.int .u8 0), (.int .u8 0), (.int .u8 0), (.int .u8 0), (.int .u8 0), (.int .u8 0), (.int .u8 0), (.int .u8 0), (.int .u8 0), (.int .u8 0), (.int .u8 0), (.int .u8 0), (.int .u8 0), (.int .u8 0), (.int .u8 0), (.int .u8 0), (.int .u8 0), (.int .u8 0), (.int .u8 0), (.int .u8 0), (.int .u8 0), (.int .u8 0), (.int .u8 0), (.int .u8 0), (.int .u8 0), (.int .u8 0), (.int .u8 0), (.int .u8 0), (.int .u8 0), (.int .u8 0), (.int .u8 0), (.int .u8 0), (.int .u8 0)]) := .of (by kernel_rfl) Tryz.underlying145 rfl
instance ty146 : TyIs Tryz.prog 146 (Go.TypeDesc.array 3 21) 3 12 (.agg #[(.int .i32 0), (.int .i32 0), (.int .i32 0)]) := .of (by kernel_rfl) Tryz.underlying146 rfl
instance ty147 : TyIs Tryz.prog 147 (Go.TypeDesc.array 3 21) 3 12 (.agg #[(.int .i32 0), (.int .i32 0), (.int .i32 0)]) := .of (by kernel_rfl) Tryz.underlying147 rfl
instance ty148 : TyIs Tryz.prog 148 (Go.TypeDesc.struct #[{ name := "Lo", type := 99, offset := 0, embedded := false, tag := "", pkgPath := "", byteOffset := 0 }, { name := "Hi", type := 99, offset := 1, embedded := false, tag := "", pkgPath := "", byteOffset := 4 }, { name := "Delta", type := 147, offset := 2, embedded := false, tag := "", pkgPath := "", byteOffset := 8 }]) 5 20 (.agg #[(.int .u32 0), (.int .u32 0), (.int .i32 0), (.int .i32 0), (.int .i32 0)]) := .of (by kernel_rfl) Tryz.underlying148 rfl
instance ty149 : TyIs Tryz.prog 149 (Go.TypeDesc.struct #[{ name := "Lo", type := 99, offset := 0, embedded := false, tag := "", pkgPath := "", byteOffset := 0 }, { name := "Hi", type := 99, offset := 1, embedded := false, tag := "", pkgPath := "", byteOffset := 4 }, { name := "Delta", type := 147, offset := 2, embedded := false, tag := "", pkgPath := "", byteOffset := 8 }]) 5 20 (.agg #[(.int .u32 0), (.int .u32 0), (.int .i32 0), (.int .i32 0), (.int .i32 0)]) := .of (by kernel_rfl) Tryz.underlying149 rfl
instance ty150 : TyIs Tryz.prog 150 (Go.TypeDesc.func #[9, 5] #[3] false) 1 8 .nilFunc := .of (by kernel_rfl) Tryz.underlying150 rfl
instance ty151 : TyIs Tryz.prog 151 (Go.TypeDesc.func #[9] #[99, 99] false) 1 8 .nilFunc := .of (by kernel_rfl) Tryz.underlying151 rfl
instance ty152 : TyIs Tryz.prog 152 (Go.TypeDesc.struct #[{ name := "_interface", type := 17, offset := 0, embedded := false, tag := "", pkgPath := "runtime", byteOffset := 0 }, { name := "concrete", type := 17, offset := 1, embedded := false, tag := "", pkgPath := "runtime", byteOffset := 8 }, { name := "asserted", type := 17, offset := 2, embedded := false, tag := "", pkgPath := "runtime", byteOffset := 16 }, { name := "missingMethod", type := 9, offset := 3, embedded := false, tag := "", pkgPath := "runtime", byteOffset := 24 }]) 4 40 (.agg #[(.pointer none), (.pointer none), (.pointer none), (.string ⟨#[]⟩)]) := .of (by kernel_rfl) Tryz.underlying152 rfl
instance ty153 : TyIs Tryz.prog 153 (Go.TypeDesc.struct #[{ name := "_interface", type := 17, offset := 0, embedded := false, tag := "", pkgPath := "runtime", byteOffset := 0 }, { name := "concrete", type := 17, offset := 1, embedded := false, tag := "", pkgPath := "runtime", byteOffset := 8 }, { name := "asserted", type := 17, offset := 2, embedded := false, tag := "", pkgPath := "runtime", byteOffset := 16 }, { name := "missingMethod", type := 9, offset := 3, embedded := false, tag := "", pkgPath := "runtime", byteOffset := 24 }]) 4 40 (.agg #[(.pointer none), (.pointer none), (.pointer none), (.string ⟨#[]⟩)]) := .of (by kernel_rfl) Tryz.underlying153 rfl
instance ty154 : TyIs Tryz.prog 154 (Go.TypeDesc.array 0 16) 0 0 (.agg #[]) := .of (by kernel_rfl) Tryz.underlying154 rfl
instance ty155 : TyIs Tryz.prog 155 (Go.TypeDesc.struct #[{ name := "_", type := 154, offset := 0, embedded := false, tag := "", pkgPath := "runtime", byteOffset := 0 }]) 0 0 (.agg #[]) := .of (by kernel_rfl) Tryz.underlying155 rfl
instance ty156 : TyIs Tryz.prog 156 (Go.TypeDesc.struct #[{ name := "_", type := 154, offset := 0, embedded := false, tag := "", pkgPath := "runtime", byteOffset := 0 }]) 0 0 (.agg #[]) := .of (by kernel_rfl) Tryz.underlying156 rfl
instance ty157 : TyIs Tryz.prog 157 (Go.TypeDesc.int Go.IntKind.u8) 1 1 (.int .u8 0) := .of (by kernel_rfl) Tryz.underlying157 rfl
instance ty158 : TyIs Tryz.prog 158 (Go.TypeDesc.int Go.IntKind.u8) 1 1 (.int .u8 0) := .of (by kernel_rfl) Tryz.underlying158 rfl
instance ty159 : TyIs Tryz.prog 159 (Go.TypeDesc.func #[120, 120] #[4] false) 1 8 .nilFunc := .of (by kernel_rfl) Tryz.underlying159 rfl
instance ty160 : TyIs Tryz.prog 160 (Go.TypeDesc.int Go.IntKind.i32) 1 4 (.int .i32 0) := .of (by kernel_rfl) Tryz.underlying160 rfl
instance ty161 : TyIs Tryz.prog 161 (Go.TypeDesc.int Go.IntKind.i32) 1 4 (.int .i32 0) := .of (by kernel_rfl) Tryz.underlying161 rfl
instance ty162 : TyIs Tryz.prog 162 (Go.TypeDesc.struct #[{ name := "Size_", type := 12, offset := 0, embedded := false, tag := "", pkgPath := "", byteOffset := 0 }, { name := "PtrBytes", type := 12, offset := 1, embedded := false, tag := "", pkgPath := "", byteOffset := 8 }, { name := "Hash", type := 99, offset := 2, embedded := false, tag := "", pkgPath := "", byteOffset := 16 }, { name := "TFlag", type := 157, offset := 3, embedded := false, tag := "", pkgPath := "", byteOffset := 20 }, { name := "Align_", type := 5, offset := 4, embedded := false, tag := "", pkgPath := "", byteOffset := 21 }, { name := "FieldAlign_", type := 5, offset := 5, embedded := false, tag := "", pkgPath := "", byteOffset := 22 }, { name := "Kind_", type := 158, offset := 6, embedded := false, tag := "", pkgPath := "", byteOffset := 23 }, { name := "Equal", type := 159, offset := 7, embedded := false, tag := "", pkgPath := "", byteOffset := 24 }, { name := "GCData", type := 104, offset := 8, embedded := false, tag := "", pkgPath := "", byteOffset := 32 }, { name := "Str", type := 160, offset := 9, embedded := false, tag := "", pkgPath := "", byteOffset := 40 }, { name := "PtrToThis", type := 161, offset := 10, embedded := false, tag := "", pkgPath := "", byteOffset := 44 }]) 11 48 (.agg #[(.int .u64 0), (.int .u64 0), (.int .u32 0), (.int .u8 0), (.int .u8 0), (.int .u8 0), (.int .u8 0), .nilFunc, (.pointer none), (.int .i32 0), (.int .i32 0)]) := .of (by kernel_rfl) Tryz.underlying162 rfl
instance ty163 : TyIs Tryz.prog 163 (Go.TypeDesc.struct #[{ name := "Size_", type := 12, offset := 0, embedded := false, tag := "", pkgPath := "", byteOffset := 0 }, { name := "PtrBytes", type := 12, offset := 1, embedded := false, tag := "", pkgPath := "", byteOffset := 8 }, { name := "Hash", type := 99, offset := 2, embedded := false, tag := "", pkgPath := "", byteOffset := 16 }, { name := "TFlag", type := 157, offset := 3, embedded := false, tag := "", pkgPath := "", byteOffset := 20 }, { name := "Align_", type := 5, offset := 4, embedded := false, tag := "", pkgPath := "", byteOffset := 21 }, { name := "FieldAlign_", type := 5, offset := 5, embedded := false, tag := "", pkgPath := "", byteOffset := 22 }, { name := "Kind_", type := 158, offset := 6, embedded := false, tag := "", pkgPath := "", byteOffset := 23 }, { name := "Equal", type := 159, offset := 7, embedded := false, tag := "", pkgPath := "", byteOffset := 24 }, { name := "GCData", type := 104, offset := 8, embedded := false, tag := "", pkgPath := "", byteOffset := 32 }, { name := "Str", type := 160, offset := 9, embedded := false, tag := "", pkgPath := "", byteOffset := 40 }, { name := "PtrToThis", type := 161, offset := 10, embedded := false, tag := "", pkgPath := "", byteOffset := 44 }]) 11 48 (.agg #[(.int .u64 0), (.int .u64 0), (.int .u32 0), (.int .u8 0), (.int .u8 0), (.int .u8 0), (.int .u8 0), .nilFunc, (.pointer none), (.int .i32 0), (.int .i32 0)]) := .of (by kernel_rfl) Tryz.underlying163 rfl
instance fn2 : FnIs Tryz.prog 2 := .of Tryz.func2 rfl rfl
instance fn3 : FnIs Tryz.prog 3 := .of Tryz.func3 rfl rfl
instance fn4 : FnIs Tryz.prog 4 := .of Tryz.func4 rfl rfl
instance fn5 : FnIs Tryz.prog 5 := .of Tryz.func5 rfl rfl
instance fn6 : FnIs Tryz.prog 6 := .of Tryz.func6 rfl rfl
instance fn7 : FnIs Tryz.prog 7 := .of Tryz.func7 rfl rfl
instance fn8 : FnIs Tryz.prog 8 := .of Tryz.func8 rfl rfl
instance fn9 : FnIs Tryz.prog 9 := .of Tryz.func9 rfl rfl
instance fn10 : FnIs Tryz.prog 10 := .of Tryz.func10 rfl rfl
instance fn11 : FnIs Tryz.prog 11 := .of Tryz.func11 rfl rfl
instance fn12 : FnIs Tryz.prog 12 := .of Tryz.func12 rfl rfl
instance fn13 : FnIs Tryz.prog 13 := .of Tryz.func13 rfl rfl
instance fn14 : FnIs Tryz.prog 14 := .of Tryz.func14 rfl rfl
instance fn15 : FnIs Tryz.prog 15 := .of Tryz.func15 rfl rfl
instance fn16 : FnIs Tryz.prog 16 := .of Tryz.func16 rfl rfl
instance fn17 : FnIs Tryz.prog 17 := .of Tryz.func17 rfl rfl
instance fn18 : FnIs Tryz.prog 18 := .of Tryz.func18 rfl rfl
instance fn19 : FnIs Tryz.prog 19 := .of Tryz.func19 rfl rfl
instance fn20 : FnIs Tryz.prog 20 := .of Tryz.func20 rfl rfl
instance fn21 : FnIs Tryz.prog 21 := .of Tryz.func21 rfl rfl
instance fn22 : FnIs Tryz.prog 22 := .of Tryz.func22 rfl rfl
instance fn23 : FnIs Tryz.prog 23 := .of Tryz.func23 rfl rfl
instance fn24 : FnIs Tryz.prog 24 := .of Tryz.func24 rfl rfl
instance fn25 : FnIs Tryz.prog 25 := .of Tryz.func25 rfl rfl
instance fn26 : FnIs Tryz.prog 26 := .of Tryz.func26 rfl rfl
instance fn27 : FnIs Tryz.prog 27 := .of Tryz.func27 rfl rfl
instance fn28 : FnIs Tryz.prog 28 := .of Tryz.func28 rfl rfl
instance fn29 : FnIs Tryz.prog 29 := .of Tryz.func29 rfl rfl
instance fn30 : FnIs Tryz.prog 30 := .of Tryz.func30 rfl rfl
instance fn31 : FnIs Tryz.prog 31 := .of Tryz.func31 rfl rfl
instance fn32 : FnIs Tryz.prog 32 := .of Tryz.func32 rfl rfl
instance fn33 : FnIs Tryz.prog 33 := .of Tryz.func33 rfl rfl
instance fn34 : FnIs Tryz.prog 34 := .of Tryz.func34 rfl rfl
instance fn35 : FnIs Tryz.prog 35 := .of Tryz.func35 rfl rfl
instance fn36 : FnIs Tryz.prog 36 := .of Tryz.func36 rfl rfl
instance fn37 : FnIs Tryz.prog 37 := .of Tryz.func37 rfl rfl
instance fn38 : FnIs Tryz.prog 38 := .of Tryz.func38 rfl rfl
instance fn39 : FnIs Tryz.prog 39 := .of Tryz.func39 rfl rfl
instance fn40 : FnIs Tryz.prog 40 := .of Tryz.func40 rfl rfl
instance fn41 : FnIs Tryz.prog 41 := .of Tryz.func41 rfl rfl
instance fn42 : FnIs Tryz.prog 42 := .of Tryz.func42 rfl rfl
instance fn43 : FnIs Tryz.prog 43 := .of Tryz.func43 rfl rfl
instance fn44 : FnIs Tryz.prog 44 := .of Tryz.func44 rfl rfl
instance fn45 : FnIs Tryz.prog 45 := .of Tryz.func45 rfl rfl
instance fn46 : FnIs Tryz.prog 46 := .of Tryz.func46 rfl rfl
instance fn47 : FnIs Tryz.prog 47 := .of Tryz.func47 rfl rfl
instance fn48 : FnIs Tryz.prog 48 := .of Tryz.func48 rfl rfl
instance fn49 : FnIs Tryz.prog 49 := .of Tryz.func49 rfl rfl
instance fn50 : FnIs Tryz.prog 50 := .of Tryz.func50 rfl rfl
instance fn51 : FnIs Tryz.prog 51 := .of Tryz.func51 rfl rfl
instance fn52 : FnIs Tryz.prog 52 := .of Tryz.func52 rfl rfl
instance fn53 : FnIs Tryz.prog 53 := .of Tryz.func53 rfl rfl
instance fn54 : FnIs Tryz.prog 54 := .of Tryz.func54 rfl rfl
instance fn55 : FnIs Tryz.prog 55 := .of Tryz.func55 rfl rfl
instance fn56 : FnIs Tryz.prog 56 := .of Tryz.func56 rfl rfl
instance fn57 : FnIs Tryz.prog 57 := .of Tryz.func57 rfl rfl
instance fn58 : FnIs Tryz.prog 58 := .of Tryz.func58 rfl rfl
instance fn59 : FnIs Tryz.prog 59 := .of Tryz.func59 rfl rfl
instance fn60 : FnIs Tryz.prog 60 := .of Tryz.func60 rfl rfl
instance fn61 : FnIs Tryz.prog 61 := .of Tryz.func61 rfl rfl
instance fn62 : FnIs Tryz.prog 62 := .of Tryz.func62 rfl rfl
instance fn63 : FnIs Tryz.prog 63 := .of Tryz.func63 rfl rfl
instance fn64 : FnIs Tryz.prog 64 := .of Tryz.func64 rfl rfl
instance fn65 : FnIs Tryz.prog 65 := .of Tryz.func65 rfl rfl
instance fn66 : FnIs Tryz.prog 66 := .of Tryz.func66 rfl rfl
instance fn67 : FnIs Tryz.prog 67 := .of Tryz.func67 rfl rfl
instance fn68 : FnIs Tryz.prog 68 := .of Tryz.func68 rfl rfl
instance fn69 : FnIs Tryz.prog 69 := .of Tryz.func69 rfl rfl
instance fn70 : FnIs Tryz.prog 70 := .of Tryz.func70 rfl rfl
instance fn71 : FnIs Tryz.prog 71 := .of Tryz.func71 rfl rfl
instance fn72 : FnIs Tryz.prog 72 := .of Tryz.func72 rfl rfl
instance fn73 : FnIs Tryz.prog 73 := .of Tryz.func73 rfl rfl
instance fn74 : FnIs Tryz.prog 74 := .of Tryz.func74 rfl rfl
instance fn75 : FnIs Tryz.prog 75 := .of Tryz.func75 rfl rfl
instance fn76 : FnIs Tryz.prog 76 := .of Tryz.func76 rfl rfl
instance fn77 : FnIs Tryz.prog 77 := .of Tryz.func77 rfl rfl
instance fn78 : FnIs Tryz.prog 78 := .of Tryz.func78 rfl rfl
instance fn79 : FnIs Tryz.prog 79 := .of Tryz.func79 rfl rfl
instance fn80 : FnIs Tryz.prog 80 := .of Tryz.func80 rfl rfl
instance fn81 : FnIs Tryz.prog 81 := .of Tryz.func81 rfl rfl
instance fn82 : FnIs Tryz.prog 82 := .of Tryz.func82 rfl rfl
instance fn83 : FnIs Tryz.prog 83 := .of Tryz.func83 rfl rfl
instance fn84 : FnIs Tryz.prog 84 := .of Tryz.func84 rfl rfl
instance fn85 : FnIs Tryz.prog 85 := .of Tryz.func85 rfl rfl
instance fn86 : FnIs Tryz.prog 86 := .of Tryz.func86 rfl rfl
instance fn87 : FnIs Tryz.prog 87 := .of Tryz.func87 rfl rfl
instance fn88 : FnIs Tryz.prog 88 := .of Tryz.func88 rfl rfl
instance fn89 : FnIs Tryz.prog 89 := .of Tryz.func89 rfl rfl
instance fn90 : FnIs Tryz.prog 90 := .of Tryz.func90 rfl rfl
instance fn91 : FnIs Tryz.prog 91 := .of Tryz.func91 rfl rfl
instance fn92 : FnIs Tryz.prog 92 := .of Tryz.func92 rfl rfl
instance fn93 : FnIs Tryz.prog 93 := .of Tryz.func93 rfl rfl
instance fn94 : FnIs Tryz.prog 94 := .of Tryz.func94 rfl rfl
instance fn95 : FnIs Tryz.prog 95 := .of Tryz.func95 rfl rfl
instance fn98 : FnIs Tryz.prog 98 := .of Tryz.func98 rfl rfl
instance fn99 : FnIs Tryz.prog 99 := .of Tryz.func99 rfl rfl
instance fn100 : FnIs Tryz.prog 100 := .of Tryz.func100 rfl rfl
instance fn101 : FnIs Tryz.prog 101 := .of Tryz.func101 rfl rfl
instance fn102 : FnIs Tryz.prog 102 := .of Tryz.func102 rfl rfl
instance fn103 : FnIs Tryz.prog 103 := .of Tryz.func103 rfl rfl
instance fn104 : FnIs Tryz.prog 104 := .of Tryz.func104 rfl rfl
instance fn105 : FnIs Tryz.prog 105 := .of Tryz.func105 rfl rfl
instance fn106 : FnIs Tryz.prog 106 := .of Tryz.func106 rfl rfl
instance fn107 : FnIs Tryz.prog 107 := .of Tryz.func107 rfl rfl
instance fn108 : FnIs Tryz.prog 108 := .of Tryz.func108 rfl rfl
instance fn109 : FnIs Tryz.prog 109 := .of Tryz.func109 rfl rfl
instance fn110 : FnIs Tryz.prog 110 := .of Tryz.func110 rfl rfl
instance fn111 : FnIs Tryz.prog 111 := .of Tryz.func111 rfl rfl
instance fn112 : FnIs Tryz.prog 112 := .of Tryz.func112 rfl rfl
instance fn113 : FnIs Tryz.prog 113 := .of Tryz.func113 rfl rfl
instance fn114 : FnIs Tryz.prog 114 := .of Tryz.func114 rfl rfl
instance fn115 : FnIs Tryz.prog 115 := .of Tryz.func115 rfl rfl
instance fn116 : FnIs Tryz.prog 116 := .of Tryz.func116 rfl rfl
instance fn117 : FnIs Tryz.prog 117 := .of Tryz.func117 rfl rfl
instance fn118 : FnIs Tryz.prog 118 := .of Tryz.func118 rfl rfl
instance fn119 : FnIs Tryz.prog 119 := .of Tryz.func119 rfl rfl
instance fn121 : FnIs Tryz.prog 121 := .of Tryz.func121 rfl rfl
instance fn122 : FnIs Tryz.prog 122 := .of Tryz.func122 rfl rfl
instance fn124 : FnIs Tryz.prog 124 := .of Tryz.func124 rfl rfl
instance fn150 : FnIs Tryz.prog 150 := .of Tryz.func150 rfl rfl
theorem mixed : Tryz.prog.follows .mixedOrders = true := by kernel_rfl
end Go.Proofs.YtmhbibfkhbaclaaGreatDoor
