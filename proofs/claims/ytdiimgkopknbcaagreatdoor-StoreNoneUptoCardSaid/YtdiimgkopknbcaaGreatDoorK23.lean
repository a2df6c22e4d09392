/- A pointer that is nil is nil; calls with four arguments; arrays. -/
import Derived.Test.YtdiimgkopknbcaaGreatDoorK16
import Derived.Test.YtdiimgkopknbcaaGreatDoorK13
namespace Go.Proofs.YtdiimgkopknbcaaGreatDoor.E
open Go Go.RowKit
set_option linter.unusedVariables false
set_option linter.unusedSimpArgs false
section ops
variable {P : Program} {d ty : Nat} {pos : String} {af : Array Edge} {g : Option (Nat × Bool)} {s : St} {H : Prop}
end ops
section heads
variable {P : Program} {d ty : Nat} {pos : String} {af : Array Edge} {K : St → Prop} {ops : Array Oper} {l_ : List Oper} {tm_ : List (Nat × PV)} {N_ lo_ n_ : Nat} {hp_ : List (Nat × Blk)}
end heads
end Go.Proofs.YtdiimgkopknbcaaGreatDoor.E
