/- A pointer that is nil is nil; calls with four arguments. -/
import Derived.Test.YtmhbibfkhbaclaaGreatDoorK25
import Derived.Test.YtmhbibfkhbaclaaGreatDoorK15
import Derived.Test.YtmhbibfkhbaclaaGreatDoorK19
namespace Go.Proofs.YtmhbibfkhbaclaaGreatDoor.E
open Go Go.RowKit
set_option linter.unusedVariables false
set_option linter.unusedSimpArgs false
section ops
variable {P : Program} {d ty : Nat} {pos : String} {af : Array Edge} {g : Option (Nat × Bool)} {s : St} {H : Prop}
end ops
section heads
variable {P : Program} {d ty : Nat} {pos : String} {af : Array Edge} {K : St → Prop} {ops : Array Oper} {l_ : List Oper} {tm_ : List (Nat × PV)} {N_ lo_ n_ : Nat} {hp_ : List (Nat × Blk)}
theorem G.build {j_ g_ : Nat} {e_ want_ : Bool} {t : TypeId} {fs : Array Field} {pl : List (Nat × Nat)} {parts : List (Nat × Operand)} {sz bytes : Nat} {z : Value} {zs qs : List PV} {q : PV} [ht : TyIs P t (.struct fs) sz bytes z] [hpl : PlIs P t fs pl]
    (hz : (ofConst z).leaves = zs) (hzk : (ofConst z).known = true) (hq : fillP pl zs (parts.map fun x => (x.1, evt tm_ x.2)) = some qs) (hr : mkAgg qs = q) (hj_ : (ops[j_]?).bind (·.dst) = some g_) (hb_ : gval (evt tm_ (.tmp g_)) want_ = some e_) (hN : Nat.blt d N_ = true)
    (hK : TriL P ops l_ K ⟨(d, .cond e_ true q) :: tm_, N_, hp_, lo_, n_⟩) : TriL P ops (⟨some d, .build t parts.toArray, ty, pos, af, some (j_, want_)⟩ :: l_) K ⟨tm_, N_, hp_, lo_, n_⟩ :=
  .gvo rfl hj_ hb_ rfl hN (PO.vo (H := e_ = true) fun _ => PO.build (s := ⟨tm_, N_, hp_, lo_, n_⟩) hz hzk hq hr trivial) hK
end heads
end Go.Proofs.YtmhbibfkhbaclaaGreatDoor.E
