/- Layer 18: the awake check, run by the kernel. -/
import Derived.Test.YtldelbknkkeniaaGreatDoorK30
namespace Go.Proofs.YtldelbknkkeniaaGreatDoor
open Go E
theorem awake_p : E.Pure Tryz.prog 5 [] (.one (.t (.v (.bool true)))) := Pure.ofB (E := env) (fuel := 1000000) (by kernel_rfl)
end Go.Proofs.YtldelbknkkeniaaGreatDoor
