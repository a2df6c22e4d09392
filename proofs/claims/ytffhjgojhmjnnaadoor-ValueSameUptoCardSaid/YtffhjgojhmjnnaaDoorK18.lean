/- Layer 15: the awake check, run by the kernel. -/
import Derived.Test.YtffhjgojhmjnnaaDoorK17
namespace Go.Proofs.YtffhjgojhmjnnaaDoor
open Go E
theorem awake_p : E.Pure Tryd.prog 5 [] (.one (.t (.v (.bool true)))) := Pure.ofB (E := env) (fuel := 1000000) (by kernel_rfl)
end Go.Proofs.YtffhjgojhmjnnaaDoor
