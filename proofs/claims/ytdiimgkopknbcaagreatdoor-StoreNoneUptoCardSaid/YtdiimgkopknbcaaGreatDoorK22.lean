/- StoreNone, its run's second piece. -/
import Derived.Test.YtdiimgkopknbcaaGreatDoorK21
namespace Go.Proofs.YtdiimgkopknbcaaGreatDoor
open Go E
set_option maxRecDepth 100000
set_option linter.unusedVariables false
set_option linter.unusedSimpArgs false
noncomputable abbrev rs1 (t : Ty) (v : Val) (at_ en : Int) : RS := ⟨trOf (tm1 at_ en), trOf (rbsT (hp1 t v)), 7, []⟩
theorem partB (t : Ty) (v : Val) (at_ en : Int) : runO env 1000000 Tryz.f3.ntmps (dropC 7 (dropC 2 (bodyOf Tryz.f3))) (rs1 t v at_ en) 8 = some (.t (tBool true)) := by kernel_rfl
end Go.Proofs.YtdiimgkopknbcaaGreatDoor
