/- Layer 15: the awake check, run by the kernel. -/
import Derived.Test.YtffhjgojhmjnnaaGreatDoorK28
namespace Go.Proofs.YtffhjgojhmjnnaaGreatDoor
open Go E
theorem awake_p : E.Pure Tryz.prog 9 [] (.one (.t (.v (.bool true)))) := Pure.ofB (E := env) (fuel := 1000000) (by kernel_rfl)
end Go.Proofs.YtffhjgojhmjnnaaGreatDoor
