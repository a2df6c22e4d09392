/- Layer 17: the awake check, run by the kernel. -/
import Derived.Test.YtdiimgkopknbcaaGreatDoorK18
namespace Go.Proofs.YtdiimgkopknbcaaGreatDoor
open Go E
theorem awake_p : E.Pure Tryz.prog 5 [] (.one (.t (.v (.bool true)))) := Pure.ofB (E := env) (fuel := 1000000) (by kernel_rfl)
end Go.Proofs.YtdiimgkopknbcaaGreatDoor
