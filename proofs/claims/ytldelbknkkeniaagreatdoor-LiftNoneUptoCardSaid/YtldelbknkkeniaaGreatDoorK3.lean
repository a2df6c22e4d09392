/- The engine: each rule of E2, E3, E6 at the head of a list of operations: unguarded ('U'), guarded ('G'). Printed by mkug.py. -/
import Derived.Test.YtldelbknkkeniaaGreatDoorK2
import Derived.Orders
namespace Go.Proofs.YtldelbknkkeniaaGreatDoor.E
open Go Go.RowKit
set_option linter.unusedVariables false
set_option linter.unusedSimpArgs false
variable {P : Program} {d ty : Nat} {pos : String} {af : Array Edge} {K : St → Prop} {s : St} {ops : Array Oper} {l_ : List Oper} {tm_ : List (Nat × PV)} {N_ lo_ n_ : Nat} {hp_ : List (Nat × Blk)}

theorem U.moveT {x : Operand} {y_ : T} (hx : (evt tm_ x).un = (.t y_)) (hx_ : (evt tm_ x).okc True) (hN : Nat.blt d N_ = true) (hK : TriL P ops l_ K ⟨(d, (.t y_)) :: tm_, N_, hp_, lo_, n_⟩) : TriL P ops (⟨some d, .move x, ty, pos, af, none⟩ :: l_) K ⟨tm_, N_, hp_, lo_, n_⟩ :=
  .vo rfl rfl hN (PO.move (s := ⟨tm_, N_, hp_, lo_, n_⟩) ⟨hx, hx_⟩).vo hK
theorem U.moveR {x : Operand} {b1_ e1_ o1_ l1_ c1_ : Nat} (hx : (evt tm_ x).un = (.ref b1_ e1_ o1_ l1_ c1_)) (hx_ : (evt tm_ x).okc True) (hN : Nat.blt d N_ = true) (hK : TriL P ops l_ K ⟨(d, (.ref b1_ e1_ o1_ l1_ c1_)) :: tm_, N_, hp_, lo_, n_⟩) : TriL P ops (⟨some d, .move x, ty, pos, af, none⟩ :: l_) K ⟨tm_, N_, hp_, lo_, n_⟩ :=
  .vo rfl rfl hN (PO.move (s := ⟨tm_, N_, hp_, lo_, n_⟩) ⟨hx, hx_⟩).vo hK
theorem U.moveP {x : Operand} {b1_ o1_ : Nat} (hx : (evt tm_ x).un = (.ptr b1_ o1_)) (hx_ : (evt tm_ x).okc True) (hN : Nat.blt d N_ = true) (hK : TriL P ops l_ K ⟨(d, (.ptr b1_ o1_)) :: tm_, N_, hp_, lo_, n_⟩) : TriL P ops (⟨some d, .move x, ty, pos, af, none⟩ :: l_) K ⟨tm_, N_, hp_, lo_, n_⟩ :=
  .vo rfl rfl hN (PO.move (s := ⟨tm_, N_, hp_, lo_, n_⟩) ⟨hx, hx_⟩).vo hK
theorem U.moveQ {x : Operand} {b1_ e1_ i1_ o1_ : Nat} (hx : (evt tm_ x).un = (.rptr b1_ e1_ i1_ o1_)) (hx_ : (evt tm_ x).okc True) (hN : Nat.blt d N_ = true) (hK : TriL P ops l_ K ⟨(d, (.rptr b1_ e1_ i1_ o1_)) :: tm_, N_, hp_, lo_, n_⟩) : TriL P ops (⟨some d, .move x, ty, pos, af, none⟩ :: l_) K ⟨tm_, N_, hp_, lo_, n_⟩ :=
  .vo rfl rfl hN (PO.move (s := ⟨tm_, N_, hp_, lo_, n_⟩) ⟨hx, hx_⟩).vo hK
theorem U.moveE {x : Operand} {y_ : T} {o1_ : Nat} (hx : (evt tm_ x).un = (.eptr y_ o1_)) (hx_ : (evt tm_ x).okc True) (hN : Nat.blt d N_ = true) (hK : TriL P ops l_ K ⟨(d, (.eptr y_ o1_)) :: tm_, N_, hp_, lo_, n_⟩) : TriL P ops (⟨some d, .move x, ty, pos, af, none⟩ :: l_) K ⟨tm_, N_, hp_, lo_, n_⟩ :=
  .vo rfl rfl hN (PO.move (s := ⟨tm_, N_, hp_, lo_, n_⟩) ⟨hx, hx_⟩).vo hK
theorem U.moveU {x : Operand} {y_ : List PV} (hx : (evt tm_ x).un = (.tup y_)) (hx_ : (evt tm_ x).okc True) (hN : Nat.blt d N_ = true) (hK : TriL P ops l_ K ⟨(d, (.tup y_)) :: tm_, N_, hp_, lo_, n_⟩) : TriL P ops (⟨some d, .move x, ty, pos, af, none⟩ :: l_) K ⟨tm_, N_, hp_, lo_, n_⟩ :=
  .vo rfl rfl hN (PO.move (s := ⟨tm_, N_, hp_, lo_, n_⟩) ⟨hx, hx_⟩).vo hK
theorem U.moveA {x : Operand} {y_ : List PV} (hx : (evt tm_ x).un = (.agg y_)) (hx_ : (evt tm_ x).okc True) (hN : Nat.blt d N_ = true) (hK : TriL P ops l_ K ⟨(d, (.agg y_)) :: tm_, N_, hp_, lo_, n_⟩) : TriL P ops (⟨some d, .move x, ty, pos, af, none⟩ :: l_) K ⟨tm_, N_, hp_, lo_, n_⟩ :=
  .vo rfl rfl hN (PO.move (s := ⟨tm_, N_, hp_, lo_, n_⟩) ⟨hx, hx_⟩).vo hK
theorem U.moveC {x : Operand} {y_ : List T} (hx : (evt tm_ x).un = (.clip y_)) (hx_ : (evt tm_ x).okc True) (hN : Nat.blt d N_ = true) (hK : TriL P ops l_ K ⟨(d, (.clip y_)) :: tm_, N_, hp_, lo_, n_⟩) : TriL P ops (⟨some d, .move x, ty, pos, af, none⟩ :: l_) K ⟨tm_, N_, hp_, lo_, n_⟩ :=
  .vo rfl rfl hN (PO.move (s := ⟨tm_, N_, hp_, lo_, n_⟩) ⟨hx, hx_⟩).vo hK
theorem U.moveF {x : Operand} {f1_ : Nat} {z_ y_ : List PV} (hx : (evt tm_ x).un = (.fn f1_ z_ y_)) (hx_ : (evt tm_ x).okc True) (hN : Nat.blt d N_ = true) (hK : TriL P ops l_ K ⟨(d, (.fn f1_ z_ y_)) :: tm_, N_, hp_, lo_, n_⟩) : TriL P ops (⟨some d, .move x, ty, pos, af, none⟩ :: l_) K ⟨tm_, N_, hp_, lo_, n_⟩ :=
  .vo rfl rfl hN (PO.move (s := ⟨tm_, N_, hp_, lo_, n_⟩) ⟨hx, hx_⟩).vo hK
theorem G.moveT {j_ g_ : Nat} {e_ want_ : Bool} {x : Operand} {y_ : T} (hx : (evt tm_ x).un = (.t y_)) (hx_ : (evt tm_ x).okc (e_ = true)) (hj_ : (ops[j_]?).bind (·.dst) = some g_) (hb_ : gval (evt tm_ (.tmp g_)) want_ = some e_) (hN : Nat.blt d N_ = true) (hK : TriL P ops l_ K ⟨(d, .cond e_ true (.t y_)) :: tm_, N_, hp_, lo_, n_⟩) : TriL P ops (⟨some d, .move x, ty, pos, af, some (j_, want_)⟩ :: l_) K ⟨tm_, N_, hp_, lo_, n_⟩ :=
  .gvo rfl hj_ hb_ rfl hN (PO.move (s := ⟨tm_, N_, hp_, lo_, n_⟩) ⟨hx, hx_⟩).vo hK
theorem G.moveR {j_ g_ : Nat} {e_ want_ : Bool} {x : Operand} {b1_ e1_ o1_ l1_ c1_ : Nat} (hx : (evt tm_ x).un = (.ref b1_ e1_ o1_ l1_ c1_)) (hx_ : (evt tm_ x).okc (e_ = true)) (hj_ : (ops[j_]?).bind (·.dst) = some g_) (hb_ : gval (evt tm_ (.tmp g_)) want_ = some e_) (hN : Nat.blt d N_ = true) (hK : TriL P ops l_ K ⟨(d, .cond e_ true (.ref b1_ e1_ o1_ l1_ c1_)) :: tm_, N_, hp_, lo_, n_⟩) : TriL P ops (⟨some d, .move x, ty, pos, af, some (j_, want_)⟩ :: l_) K ⟨tm_, N_, hp_, lo_, n_⟩ :=
  .gvo rfl hj_ hb_ rfl hN (PO.move (s := ⟨tm_, N_, hp_, lo_, n_⟩) ⟨hx, hx_⟩).vo hK
theorem G.moveP {j_ g_ : Nat} {e_ want_ : Bool} {x : Operand} {b1_ o1_ : Nat} (hx : (evt tm_ x).un = (.ptr b1_ o1_)) (hx_ : (evt tm_ x).okc (e_ = true)) (hj_ : (ops[j_]?).bind (·.dst) = some g_) (hb_ : gval (evt tm_ (.tmp g_)) want_ = some e_) (hN : Nat.blt d N_ = true) (hK : TriL P ops l_ K ⟨(d, .cond e_ true (.ptr b1_ o1_)) :: tm_, N_, hp_, lo_, n_⟩) : TriL P ops (⟨some d, .move x, ty, pos, af, some (j_, want_)⟩ :: l_) K ⟨tm_, N_, hp_, lo_, n_⟩ :=
  .gvo rfl hj_ hb_ rfl hN (PO.move (s := ⟨tm_, N_, hp_, lo_, n_⟩) ⟨hx, hx_⟩).vo hK
theorem G.moveQ {j_ g_ : Nat} {e_ want_ : Bool} {x : Operand} {b1_ e1_ i1_ o1_ : Nat} (hx : (evt tm_ x).un = (.rptr b1_ e1_ i1_ o1_)) (hx_ : (evt tm_ x).okc (e_ = true)) (hj_ : (ops[j_]?).bind (·.dst) = some g_) (hb_ : gval (evt tm_ (.tmp g_)) want_ = some e_) (hN : Nat.blt d N_ = true) (hK : TriL P ops l_ K ⟨(d, .cond e_ true (.rptr b1_ e1_ i1_ o1_)) :: tm_, N_, hp_, lo_, n_⟩) : TriL P ops (⟨some d, .move x, ty, pos, af, some (j_, want_)⟩ :: l_) K ⟨tm_, N_, hp_, lo_, n_⟩ :=
  .gvo rfl hj_ hb_ rfl hN (PO.move (s := ⟨tm_, N_, hp_, lo_, n_⟩) ⟨hx, hx_⟩).vo hK
theorem G.moveE {j_ g_ : Nat} {e_ want_ : Bool} {x : Operand} {y_ : T} {o1_ : Nat} (hx : (evt tm_ x).un = (.eptr y_ o1_)) (hx_ : (evt tm_ x).okc (e_ = true)) (hj_ : (ops[j_]?).bind (·.dst) = some g_) (hb_ : gval (evt tm_ (.tmp g_)) want_ = some e_) (hN : Nat.blt d N_ = true) (hK : TriL P ops l_ K ⟨(d, .cond e_ true (.eptr y_ o1_)) :: tm_, N_, hp_, lo_, n_⟩) : TriL P ops (⟨some d, .move x, ty, pos, af, some (j_, want_)⟩ :: l_) K ⟨tm_, N_, hp_, lo_, n_⟩ :=
  .gvo rfl hj_ hb_ rfl hN (PO.move (s := ⟨tm_, N_, hp_, lo_, n_⟩) ⟨hx, hx_⟩).vo hK
theorem G.moveU {j_ g_ : Nat} {e_ want_ : Bool} {x : Operand} {y_ : List PV} (hx : (evt tm_ x).un = (.tup y_)) (hx_ : (evt tm_ x).okc (e_ = true)) (hj_ : (ops[j_]?).bind (·.dst) = some g_) (hb_ : gval (evt tm_ (.tmp g_)) want_ = some e_) (hN : Nat.blt d N_ = true) (hK : TriL P ops l_ K ⟨(d, .cond e_ true (.tup y_)) :: tm_, N_, hp_, lo_, n_⟩) : TriL P ops (⟨some d, .move x, ty, pos, af, some (j_, want_)⟩ :: l_) K ⟨tm_, N_, hp_, lo_, n_⟩ :=
  .gvo rfl hj_ hb_ rfl hN (PO.move (s := ⟨tm_, N_, hp_, lo_, n_⟩) ⟨hx, hx_⟩).vo hK
theorem G.moveA {j_ g_ : Nat} {e_ want_ : Bool} {x : Operand} {y_ : List PV} (hx : (evt tm_ x).un = (.agg y_)) (hx_ : (evt tm_ x).okc (e_ = true)) (hj_ : (ops[j_]?).bind (·.dst) = some g_) (hb_ : gval (evt tm_ (.tmp g_)) want_ = some e_) (hN : Nat.blt d N_ = true) (hK : TriL P ops l_ K ⟨(d, .cond e_ true (.agg y_)) :: tm_, N_, hp_, lo_, n_⟩) : TriL P ops (⟨some d, .move x, ty, pos, af, some (j_, want_)⟩ :: l_) K ⟨tm_, N_, hp_, lo_, n_⟩ :=
  .gvo rfl hj_ hb_ rfl hN (PO.move (s := ⟨tm_, N_, hp_, lo_, n_⟩) ⟨hx, hx_⟩).vo hK
theorem G.moveC {j_ g_ : Nat} {e_ want_ : Bool} {x : Operand} {y_ : List T} (hx : (evt tm_ x).un = (.clip y_)) (hx_ : (evt tm_ x).okc (e_ = true)) (hj_ : (ops[j_]?).bind (·.dst) = some g_) (hb_ : gval (evt tm_ (.tmp g_)) want_ = some e_) (hN : Nat.blt d N_ = true) (hK : TriL P ops l_ K ⟨(d, .cond e_ true (.clip y_)) :: tm_, N_, hp_, lo_, n_⟩) : TriL P ops (⟨some d, .move x, ty, pos, af, some (j_, want_)⟩ :: l_) K ⟨tm_, N_, hp_, lo_, n_⟩ :=
  .gvo rfl hj_ hb_ rfl hN (PO.move (s := ⟨tm_, N_, hp_, lo_, n_⟩) ⟨hx, hx_⟩).vo hK
theorem G.moveF {j_ g_ : Nat} {e_ want_ : Bool} {x : Operand} {f1_ : Nat} {z_ y_ : List PV} (hx : (evt tm_ x).un = (.fn f1_ z_ y_)) (hx_ : (evt tm_ x).okc (e_ = true)) (hj_ : (ops[j_]?).bind (·.dst) = some g_) (hb_ : gval (evt tm_ (.tmp g_)) want_ = some e_) (hN : Nat.blt d N_ = true) (hK : TriL P ops l_ K ⟨(d, .cond e_ true (.fn f1_ z_ y_)) :: tm_, N_, hp_, lo_, n_⟩) : TriL P ops (⟨some d, .move x, ty, pos, af, some (j_, want_)⟩ :: l_) K ⟨tm_, N_, hp_, lo_, n_⟩ :=
  .gvo rfl hj_ hb_ rfl hN (PO.move (s := ⟨tm_, N_, hp_, lo_, n_⟩) ⟨hx, hx_⟩).vo hK
theorem U.assignT {x : Operand} {y_ : T} (hx : (evt tm_ x).un = (.t y_)) (hx_ : (evt tm_ x).okc True) (hN : Nat.blt d N_ = true) (hK : TriL P ops l_ K ⟨(d, (.t y_)) :: tm_, N_, hp_, lo_, n_⟩) : TriL P ops (⟨some d, .assign x, ty, pos, af, none⟩ :: l_) K ⟨tm_, N_, hp_, lo_, n_⟩ :=
  .vo rfl rfl hN (PO.assign (s := ⟨tm_, N_, hp_, lo_, n_⟩) ⟨hx, hx_⟩).vo hK
theorem U.assignR {x : Operand} {b1_ e1_ o1_ l1_ c1_ : Nat} (hx : (evt tm_ x).un = (.ref b1_ e1_ o1_ l1_ c1_)) (hx_ : (evt tm_ x).okc True) (hN : Nat.blt d N_ = true) (hK : TriL P ops l_ K ⟨(d, (.ref b1_ e1_ o1_ l1_ c1_)) :: tm_, N_, hp_, lo_, n_⟩) : TriL P ops (⟨some d, .assign x, ty, pos, af, none⟩ :: l_) K ⟨tm_, N_, hp_, lo_, n_⟩ :=
  .vo rfl rfl hN (PO.assign (s := ⟨tm_, N_, hp_, lo_, n_⟩) ⟨hx, hx_⟩).vo hK
theorem U.assignP {x : Operand} {b1_ o1_ : Nat} (hx : (evt tm_ x).un = (.ptr b1_ o1_)) (hx_ : (evt tm_ x).okc True) (hN : Nat.blt d N_ = true) (hK : TriL P ops l_ K ⟨(d, (.ptr b1_ o1_)) :: tm_, N_, hp_, lo_, n_⟩) : TriL P ops (⟨some d, .assign x, ty, pos, af, none⟩ :: l_) K ⟨tm_, N_, hp_, lo_, n_⟩ :=
  .vo rfl rfl hN (PO.assign (s := ⟨tm_, N_, hp_, lo_, n_⟩) ⟨hx, hx_⟩).vo hK
theorem U.assignQ {x : Operand} {b1_ e1_ i1_ o1_ : Nat} (hx : (evt tm_ x).un = (.rptr b1_ e1_ i1_ o1_)) (hx_ : (evt tm_ x).okc True) (hN : Nat.blt d N_ = true) (hK : TriL P ops l_ K ⟨(d, (.rptr b1_ e1_ i1_ o1_)) :: tm_, N_, hp_, lo_, n_⟩) : TriL P ops (⟨some d, .assign x, ty, pos, af, none⟩ :: l_) K ⟨tm_, N_, hp_, lo_, n_⟩ :=
  .vo rfl rfl hN (PO.assign (s := ⟨tm_, N_, hp_, lo_, n_⟩) ⟨hx, hx_⟩).vo hK
theorem U.assignE {x : Operand} {y_ : T} {o1_ : Nat} (hx : (evt tm_ x).un = (.eptr y_ o1_)) (hx_ : (evt tm_ x).okc True) (hN : Nat.blt d N_ = true) (hK : TriL P ops l_ K ⟨(d, (.eptr y_ o1_)) :: tm_, N_, hp_, lo_, n_⟩) : TriL P ops (⟨some d, .assign x, ty, pos, af, none⟩ :: l_) K ⟨tm_, N_, hp_, lo_, n_⟩ :=
  .vo rfl rfl hN (PO.assign (s := ⟨tm_, N_, hp_, lo_, n_⟩) ⟨hx, hx_⟩).vo hK
theorem U.assignU {x : Operand} {y_ : List PV} (hx : (evt tm_ x).un = (.tup y_)) (hx_ : (evt tm_ x).okc True) (hN : Nat.blt d N_ = true) (hK : TriL P ops l_ K ⟨(d, (.tup y_)) :: tm_, N_, hp_, lo_, n_⟩) : TriL P ops (⟨some d, .assign x, ty, pos, af, none⟩ :: l_) K ⟨tm_, N_, hp_, lo_, n_⟩ :=
  .vo rfl rfl hN (PO.assign (s := ⟨tm_, N_, hp_, lo_, n_⟩) ⟨hx, hx_⟩).vo hK
theorem U.assignA {x : Operand} {y_ : List PV} (hx : (evt tm_ x).un = (.agg y_)) (hx_ : (evt tm_ x).okc True) (hN : Nat.blt d N_ = true) (hK : TriL P ops l_ K ⟨(d, (.agg y_)) :: tm_, N_, hp_, lo_, n_⟩) : TriL P ops (⟨some d, .assign x, ty, pos, af, none⟩ :: l_) K ⟨tm_, N_, hp_, lo_, n_⟩ :=
  .vo rfl rfl hN (PO.assign (s := ⟨tm_, N_, hp_, lo_, n_⟩) ⟨hx, hx_⟩).vo hK
theorem U.assignC {x : Operand} {y_ : List T} (hx : (evt tm_ x).un = (.clip y_)) (hx_ : (evt tm_ x).okc True) (hN : Nat.blt d N_ = true) (hK : TriL P ops l_ K ⟨(d, (.clip y_)) :: tm_, N_, hp_, lo_, n_⟩) : TriL P ops (⟨some d, .assign x, ty, pos, af, none⟩ :: l_) K ⟨tm_, N_, hp_, lo_, n_⟩ :=
  .vo rfl rfl hN (PO.assign (s := ⟨tm_, N_, hp_, lo_, n_⟩) ⟨hx, hx_⟩).vo hK
theorem U.assignF {x : Operand} {f1_ : Nat} {z_ y_ : List PV} (hx : (evt tm_ x).un = (.fn f1_ z_ y_)) (hx_ : (evt tm_ x).okc True) (hN : Nat.blt d N_ = true) (hK : TriL P ops l_ K ⟨(d, (.fn f1_ z_ y_)) :: tm_, N_, hp_, lo_, n_⟩) : TriL P ops (⟨some d, .assign x, ty, pos, af, none⟩ :: l_) K ⟨tm_, N_, hp_, lo_, n_⟩ :=
  .vo rfl rfl hN (PO.assign (s := ⟨tm_, N_, hp_, lo_, n_⟩) ⟨hx, hx_⟩).vo hK
theorem G.assignT {j_ g_ : Nat} {e_ want_ : Bool} {x : Operand} {y_ : T} (hx : (evt tm_ x).un = (.t y_)) (hx_ : (evt tm_ x).okc (e_ = true)) (hj_ : (ops[j_]?).bind (·.dst) = some g_) (hb_ : gval (evt tm_ (.tmp g_)) want_ = some e_) (hN : Nat.blt d N_ = true) (hK : TriL P ops l_ K ⟨(d, .cond e_ true (.t y_)) :: tm_, N_, hp_, lo_, n_⟩) : TriL P ops (⟨some d, .assign x, ty, pos, af, some (j_, want_)⟩ :: l_) K ⟨tm_, N_, hp_, lo_, n_⟩ :=
  .gvo rfl hj_ hb_ rfl hN (PO.assign (s := ⟨tm_, N_, hp_, lo_, n_⟩) ⟨hx, hx_⟩).vo hK
theorem G.assignR {j_ g_ : Nat} {e_ want_ : Bool} {x : Operand} {b1_ e1_ o1_ l1_ c1_ : Nat} (hx : (evt tm_ x).un = (.ref b1_ e1_ o1_ l1_ c1_)) (hx_ : (evt tm_ x).okc (e_ = true)) (hj_ : (ops[j_]?).bind (·.dst) = some g_) (hb_ : gval (evt tm_ (.tmp g_)) want_ = some e_) (hN : Nat.blt d N_ = true) (hK : TriL P ops l_ K ⟨(d, .cond e_ true (.ref b1_ e1_ o1_ l1_ c1_)) :: tm_, N_, hp_, lo_, n_⟩) : TriL P ops (⟨some d, .assign x, ty, pos, af, some (j_, want_)⟩ :: l_) K ⟨tm_, N_, hp_, lo_, n_⟩ :=
  .gvo rfl hj_ hb_ rfl hN (PO.assign (s := ⟨tm_, N_, hp_, lo_, n_⟩) ⟨hx, hx_⟩).vo hK
theorem G.assignP {j_ g_ : Nat} {e_ want_ : Bool} {x : Operand} {b1_ o1_ : Nat} (hx : (evt tm_ x).un = (.ptr b1_ o1_)) (hx_ : (evt tm_ x).okc (e_ = true)) (hj_ : (ops[j_]?).bind (·.dst) = some g_) (hb_ : gval (evt tm_ (.tmp g_)) want_ = some e_) (hN : Nat.blt d N_ = true) (hK : TriL P ops l_ K ⟨(d, .cond e_ true (.ptr b1_ o1_)) :: tm_, N_, hp_, lo_, n_⟩) : TriL P ops (⟨some d, .assign x, ty, pos, af, some (j_, want_)⟩ :: l_) K ⟨tm_, N_, hp_, lo_, n_⟩ :=
  .gvo rfl hj_ hb_ rfl hN (PO.assign (s := ⟨tm_, N_, hp_, lo_, n_⟩) ⟨hx, hx_⟩).vo hK
theorem G.assignQ {j_ g_ : Nat} {e_ want_ : Bool} {x : Operand} {b1_ e1_ i1_ o1_ : Nat} (hx : (evt tm_ x).un = (.rptr b1_ e1_ i1_ o1_)) (hx_ : (evt tm_ x).okc (e_ = true)) (hj_ : (ops[j_]?).bind (·.dst) = some g_) (hb_ : gval (evt tm_ (.tmp g_)) want_ = some e_) (hN : Nat.blt d N_ = true) (hK : TriL P ops l_ K ⟨(d, .cond e_ true (.rptr b1_ e1_ i1_ o1_)) :: tm_, N_, hp_, lo_, n_⟩) : TriL P ops (⟨some d, .assign x, ty, pos, af, some (j_, want_)⟩ :: l_) K ⟨tm_, N_, hp_, lo_, n_⟩ :=
  .gvo rfl hj_ hb_ rfl hN (PO.assign (s := ⟨tm_, N_, hp_, lo_, n_⟩) ⟨hx, hx_⟩).vo hK
theorem G.assignE {j_ g_ : Nat} {e_ want_ : Bool} {x : Operand} {y_ : T} {o1_ : Nat} (hx : (evt tm_ x).un = (.eptr y_ o1_)) (hx_ : (evt tm_ x).okc (e_ = true)) (hj_ : (ops[j_]?).bind (·.dst) = some g_) (hb_ : gval (evt tm_ (.tmp g_)) want_ = some e_) (hN : Nat.blt d N_ = true) (hK : TriL P ops l_ K ⟨(d, .cond e_ true (.eptr y_ o1_)) :: tm_, N_, hp_, lo_, n_⟩) : TriL P ops (⟨some d, .assign x, ty, pos, af, some (j_, want_)⟩ :: l_) K ⟨tm_, N_, hp_, lo_, n_⟩ :=
  .gvo rfl hj_ hb_ rfl hN (PO.assign (s := ⟨tm_, N_, hp_, lo_, n_⟩) ⟨hx, hx_⟩).vo hK
theorem G.assignU {j_ g_ : Nat} {e_ want_ : Bool} {x : Operand} {y_ : List PV} (hx : (evt tm_ x).un = (.tup y_)) (hx_ : (evt tm_ x).okc (e_ = true)) (hj_ : (ops[j_]?).bind (·.dst) = some g_) (hb_ : gval (evt tm_ (.tmp g_)) want_ = some e_) (hN : Nat.blt d N_ = true) (hK : TriL P ops l_ K ⟨(d, .cond e_ true (.tup y_)) :: tm_, N_, hp_, lo_, n_⟩) : TriL P ops (⟨some d, .assign x, ty, pos, af, some (j_, want_)⟩ :: l_) K ⟨tm_, N_, hp_, lo_, n_⟩ :=
  .gvo rfl hj_ hb_ rfl hN (PO.assign (s := ⟨tm_, N_, hp_, lo_, n_⟩) ⟨hx, hx_⟩).vo hK
theorem G.assignA {j_ g_ : Nat} {e_ want_ : Bool} {x : Operand} {y_ : List PV} (hx : (evt tm_ x).un = (.agg y_)) (hx_ : (evt tm_ x).okc (e_ = true)) (hj_ : (ops[j_]?).bind (·.dst) = some g_) (hb_ : gval (evt tm_ (.tmp g_)) want_ = some e_) (hN : Nat.blt d N_ = true) (hK : TriL P ops l_ K ⟨(d, .cond e_ true (.agg y_)) :: tm_, N_, hp_, lo_, n_⟩) : TriL P ops (⟨some d, .assign x, ty, pos, af, some (j_, want_)⟩ :: l_) K ⟨tm_, N_, hp_, lo_, n_⟩ :=
  .gvo rfl hj_ hb_ rfl hN (PO.assign (s := ⟨tm_, N_, hp_, lo_, n_⟩) ⟨hx, hx_⟩).vo hK
theorem G.assignC {j_ g_ : Nat} {e_ want_ : Bool} {x : Operand} {y_ : List T} (hx : (evt tm_ x).un = (.clip y_)) (hx_ : (evt tm_ x).okc (e_ = true)) (hj_ : (ops[j_]?).bind (·.dst) = some g_) (hb_ : gval (evt tm_ (.tmp g_)) want_ = some e_) (hN : Nat.blt d N_ = true) (hK : TriL P ops l_ K ⟨(d, .cond e_ true (.clip y_)) :: tm_, N_, hp_, lo_, n_⟩) : TriL P ops (⟨some d, .assign x, ty, pos, af, some (j_, want_)⟩ :: l_) K ⟨tm_, N_, hp_, lo_, n_⟩ :=
  .gvo rfl hj_ hb_ rfl hN (PO.assign (s := ⟨tm_, N_, hp_, lo_, n_⟩) ⟨hx, hx_⟩).vo hK
theorem G.assignF {j_ g_ : Nat} {e_ want_ : Bool} {x : Operand} {f1_ : Nat} {z_ y_ : List PV} (hx : (evt tm_ x).un = (.fn f1_ z_ y_)) (hx_ : (evt tm_ x).okc (e_ = true)) (hj_ : (ops[j_]?).bind (·.dst) = some g_) (hb_ : gval (evt tm_ (.tmp g_)) want_ = some e_) (hN : Nat.blt d N_ = true) (hK : TriL P ops l_ K ⟨(d, .cond e_ true (.fn f1_ z_ y_)) :: tm_, N_, hp_, lo_, n_⟩) : TriL P ops (⟨some d, .assign x, ty, pos, af, some (j_, want_)⟩ :: l_) K ⟨tm_, N_, hp_, lo_, n_⟩ :=
  .gvo rfl hj_ hb_ rfl hN (PO.assign (s := ⟨tm_, N_, hp_, lo_, n_⟩) ⟨hx, hx_⟩).vo hK
theorem U.pickb {c x y : Operand} {b p q : Bool} (hc : (evt tm_ c).un = (.t (.v (.bool b)))) (hc_ : (evt tm_ c).okc True) (hx : (evt tm_ x).un = (.t (.v (.bool p)))) (hx_ : (evt tm_ x).okc (True ∧ b = true)) (hy : (evt tm_ y).un = (.t (.v (.bool q)))) (hy_ : (evt tm_ y).okc (True ∧ b = false)) (hN : Nat.blt d N_ = true) (hK : TriL P ops l_ K ⟨(d, (.t (.v (.bool (bif b then p else q))))) :: tm_, N_, hp_, lo_, n_⟩) : TriL P ops (⟨some d, .pick c x y, ty, pos, af, none⟩ :: l_) K ⟨tm_, N_, hp_, lo_, n_⟩ :=
  .vo rfl rfl hN (PO.pickb (s := ⟨tm_, N_, hp_, lo_, n_⟩) ⟨hc, hc_⟩ ⟨hx, hx_⟩ ⟨hy, hy_⟩).vo hK
theorem G.pickb {j_ g_ : Nat} {e_ want_ : Bool} {c x y : Operand} {b p q : Bool} (hc : (evt tm_ c).un = (.t (.v (.bool b)))) (hc_ : (evt tm_ c).okc (e_ = true)) (hx : (evt tm_ x).un = (.t (.v (.bool p)))) (hx_ : (evt tm_ x).okc ((e_ = true) ∧ b = true)) (hy : (evt tm_ y).un = (.t (.v (.bool q)))) (hy_ : (evt tm_ y).okc ((e_ = true) ∧ b = false)) (hj_ : (ops[j_]?).bind (·.dst) = some g_) (hb_ : gval (evt tm_ (.tmp g_)) want_ = some e_) (hN : Nat.blt d N_ = true) (hK : TriL P ops l_ K ⟨(d, .cond e_ true (.t (.v (.bool (bif b then p else q))))) :: tm_, N_, hp_, lo_, n_⟩) : TriL P ops (⟨some d, .pick c x y, ty, pos, af, some (j_, want_)⟩ :: l_) K ⟨tm_, N_, hp_, lo_, n_⟩ :=
  .gvo rfl hj_ hb_ rfl hN (PO.pickb (s := ⟨tm_, N_, hp_, lo_, n_⟩) ⟨hc, hc_⟩ ⟨hx, hx_⟩ ⟨hy, hy_⟩).vo hK
theorem U.pick {c x y : Operand} {b : Bool} {p q : PV} (hc : (evt tm_ c).un = (.t (.v (.bool b)))) (hc_ : (evt tm_ c).okc True) (hx : (evt tm_ x).un = p) (hx_ : (evt tm_ x).okc (True ∧ b = true)) (hy : (evt tm_ y).un = q) (hy_ : (evt tm_ y).okc (True ∧ b = false)) (hN : Nat.blt d N_ = true) (hK : TriL P ops l_ K ⟨(d, (if b then p else q)) :: tm_, N_, hp_, lo_, n_⟩) : TriL P ops (⟨some d, .pick c x y, ty, pos, af, none⟩ :: l_) K ⟨tm_, N_, hp_, lo_, n_⟩ :=
  .vo rfl rfl hN (PO.pick (s := ⟨tm_, N_, hp_, lo_, n_⟩) ⟨hc, hc_⟩ ⟨hx, hx_⟩ ⟨hy, hy_⟩).vo hK
theorem G.pick {j_ g_ : Nat} {e_ want_ : Bool} {c x y : Operand} {b : Bool} {p q : PV} (hc : (evt tm_ c).un = (.t (.v (.bool b)))) (hc_ : (evt tm_ c).okc (e_ = true)) (hx : (evt tm_ x).un = p) (hx_ : (evt tm_ x).okc ((e_ = true) ∧ b = true)) (hy : (evt tm_ y).un = q) (hy_ : (evt tm_ y).okc ((e_ = true) ∧ b = false)) (hj_ : (ops[j_]?).bind (·.dst) = some g_) (hb_ : gval (evt tm_ (.tmp g_)) want_ = some e_) (hN : Nat.blt d N_ = true) (hK : TriL P ops l_ K ⟨(d, .cond e_ true (if b then p else q)) :: tm_, N_, hp_, lo_, n_⟩) : TriL P ops (⟨some d, .pick c x y, ty, pos, af, some (j_, want_)⟩ :: l_) K ⟨tm_, N_, hp_, lo_, n_⟩ :=
  .gvo rfl hj_ hb_ rfl hN (PO.pick (s := ⟨tm_, N_, hp_, lo_, n_⟩) ⟨hc, hc_⟩ ⟨hx, hx_⟩ ⟨hy, hy_⟩).vo hK
theorem U.bin {op : BinOp} {t t' : TypeId} {x y : Operand} {u v r : Value} (hx : (evt tm_ x).un = (.t (.v u))) (hx_ : (evt tm_ x).okc True) (hy : (evt tm_ y).un = (.t (.v v))) (hy_ : (evt tm_ y).okc True) (hr : binV op u v = some r) (hN : Nat.blt d N_ = true) (hK : TriL P ops l_ K ⟨(d, (.t (.v r))) :: tm_, N_, hp_, lo_, n_⟩) : TriL P ops (⟨some d, .binOp op t x y t', ty, pos, af, none⟩ :: l_) K ⟨tm_, N_, hp_, lo_, n_⟩ :=
  .vo rfl rfl hN (PO.bin (s := ⟨tm_, N_, hp_, lo_, n_⟩) ⟨hx, hx_⟩ ⟨hy, hy_⟩ hr).vo hK
theorem G.bin {j_ g_ : Nat} {e_ want_ : Bool} {op : BinOp} {t t' : TypeId} {x y : Operand} {u v r : Value} (hx : (evt tm_ x).un = (.t (.v u))) (hx_ : (evt tm_ x).okc (e_ = true)) (hy : (evt tm_ y).un = (.t (.v v))) (hy_ : (evt tm_ y).okc (e_ = true)) (hr : binV op u v = some r) (hj_ : (ops[j_]?).bind (·.dst) = some g_) (hb_ : gval (evt tm_ (.tmp g_)) want_ = some e_) (hN : Nat.blt d N_ = true) (hK : TriL P ops l_ K ⟨(d, .cond e_ true (.t (.v r))) :: tm_, N_, hp_, lo_, n_⟩) : TriL P ops (⟨some d, .binOp op t x y t', ty, pos, af, some (j_, want_)⟩ :: l_) K ⟨tm_, N_, hp_, lo_, n_⟩ :=
  .gvo rfl hj_ hb_ rfl hN (PO.bin (s := ⟨tm_, N_, hp_, lo_, n_⟩) ⟨hx, hx_⟩ ⟨hy, hy_⟩ hr).vo hK
theorem U.add {k : IntKind} {t t' : TypeId} {x y : Operand} {m n : Int} (hx : (evt tm_ x).un = (.t (.v (.int k m)))) (hx_ : (evt tm_ x).okc True) (hy : (evt tm_ y).un = (.t (.v (.int k n)))) (hy_ : (evt tm_ y).okc True) (hw : True → k.wrap (m + n) = m + n) (hN : Nat.blt d N_ = true) (hK : TriL P ops l_ K ⟨(d, (.t (.v (.int k (m + n))))) :: tm_, N_, hp_, lo_, n_⟩) : TriL P ops (⟨some d, .binOp .add t x y t', ty, pos, af, none⟩ :: l_) K ⟨tm_, N_, hp_, lo_, n_⟩ :=
  .vo rfl rfl hN (PO.add (s := ⟨tm_, N_, hp_, lo_, n_⟩) ⟨hx, hx_⟩ ⟨hy, hy_⟩ hw).vo hK
theorem G.add {j_ g_ : Nat} {e_ want_ : Bool} {k : IntKind} {t t' : TypeId} {x y : Operand} {m n : Int} (hx : (evt tm_ x).un = (.t (.v (.int k m)))) (hx_ : (evt tm_ x).okc (e_ = true)) (hy : (evt tm_ y).un = (.t (.v (.int k n)))) (hy_ : (evt tm_ y).okc (e_ = true)) (hw : e_ = true → k.wrap (m + n) = m + n) (hj_ : (ops[j_]?).bind (·.dst) = some g_) (hb_ : gval (evt tm_ (.tmp g_)) want_ = some e_) (hN : Nat.blt d N_ = true) (hK : TriL P ops l_ K ⟨(d, .cond e_ true (.t (.v (.int k (m + n))))) :: tm_, N_, hp_, lo_, n_⟩) : TriL P ops (⟨some d, .binOp .add t x y t', ty, pos, af, some (j_, want_)⟩ :: l_) K ⟨tm_, N_, hp_, lo_, n_⟩ :=
  .gvo rfl hj_ hb_ rfl hN (PO.add (s := ⟨tm_, N_, hp_, lo_, n_⟩) ⟨hx, hx_⟩ ⟨hy, hy_⟩ hw).vo hK
theorem U.sub {k : IntKind} {t t' : TypeId} {x y : Operand} {m n : Int} (hx : (evt tm_ x).un = (.t (.v (.int k m)))) (hx_ : (evt tm_ x).okc True) (hy : (evt tm_ y).un = (.t (.v (.int k n)))) (hy_ : (evt tm_ y).okc True) (hw : True → k.wrap (m - n) = m - n) (hN : Nat.blt d N_ = true) (hK : TriL P ops l_ K ⟨(d, (.t (.v (.int k (m - n))))) :: tm_, N_, hp_, lo_, n_⟩) : TriL P ops (⟨some d, .binOp .sub t x y t', ty, pos, af, none⟩ :: l_) K ⟨tm_, N_, hp_, lo_, n_⟩ :=
  .vo rfl rfl hN (PO.sub (s := ⟨tm_, N_, hp_, lo_, n_⟩) ⟨hx, hx_⟩ ⟨hy, hy_⟩ hw).vo hK
theorem G.sub {j_ g_ : Nat} {e_ want_ : Bool} {k : IntKind} {t t' : TypeId} {x y : Operand} {m n : Int} (hx : (evt tm_ x).un = (.t (.v (.int k m)))) (hx_ : (evt tm_ x).okc (e_ = true)) (hy : (evt tm_ y).un = (.t (.v (.int k n)))) (hy_ : (evt tm_ y).okc (e_ = true)) (hw : e_ = true → k.wrap (m - n) = m - n) (hj_ : (ops[j_]?).bind (·.dst) = some g_) (hb_ : gval (evt tm_ (.tmp g_)) want_ = some e_) (hN : Nat.blt d N_ = true) (hK : TriL P ops l_ K ⟨(d, .cond e_ true (.t (.v (.int k (m - n))))) :: tm_, N_, hp_, lo_, n_⟩) : TriL P ops (⟨some d, .binOp .sub t x y t', ty, pos, af, some (j_, want_)⟩ :: l_) K ⟨tm_, N_, hp_, lo_, n_⟩ :=
  .gvo rfl hj_ hb_ rfl hN (PO.sub (s := ⟨tm_, N_, hp_, lo_, n_⟩) ⟨hx, hx_⟩ ⟨hy, hy_⟩ hw).vo hK
theorem U.mul {k : IntKind} {t t' : TypeId} {x y : Operand} {m n : Int} (hx : (evt tm_ x).un = (.t (.v (.int k m)))) (hx_ : (evt tm_ x).okc True) (hy : (evt tm_ y).un = (.t (.v (.int k n)))) (hy_ : (evt tm_ y).okc True) (hw : True → k.wrap (m * n) = m * n) (hN : Nat.blt d N_ = true) (hK : TriL P ops l_ K ⟨(d, (.t (.v (.int k (m * n))))) :: tm_, N_, hp_, lo_, n_⟩) : TriL P ops (⟨some d, .binOp .mul t x y t', ty, pos, af, none⟩ :: l_) K ⟨tm_, N_, hp_, lo_, n_⟩ :=
  .vo rfl rfl hN (PO.mul (s := ⟨tm_, N_, hp_, lo_, n_⟩) ⟨hx, hx_⟩ ⟨hy, hy_⟩ hw).vo hK
theorem G.mul {j_ g_ : Nat} {e_ want_ : Bool} {k : IntKind} {t t' : TypeId} {x y : Operand} {m n : Int} (hx : (evt tm_ x).un = (.t (.v (.int k m)))) (hx_ : (evt tm_ x).okc (e_ = true)) (hy : (evt tm_ y).un = (.t (.v (.int k n)))) (hy_ : (evt tm_ y).okc (e_ = true)) (hw : e_ = true → k.wrap (m * n) = m * n) (hj_ : (ops[j_]?).bind (·.dst) = some g_) (hb_ : gval (evt tm_ (.tmp g_)) want_ = some e_) (hN : Nat.blt d N_ = true) (hK : TriL P ops l_ K ⟨(d, .cond e_ true (.t (.v (.int k (m * n))))) :: tm_, N_, hp_, lo_, n_⟩) : TriL P ops (⟨some d, .binOp .mul t x y t', ty, pos, af, some (j_, want_)⟩ :: l_) K ⟨tm_, N_, hp_, lo_, n_⟩ :=
  .gvo rfl hj_ hb_ rfl hN (PO.mul (s := ⟨tm_, N_, hp_, lo_, n_⟩) ⟨hx, hx_⟩ ⟨hy, hy_⟩ hw).vo hK
theorem U.quo {k : IntKind} {t t' : TypeId} {x y : Operand} {m n r : Int} (hx : (evt tm_ x).un = (.t (.v (.int k m)))) (hx_ : (evt tm_ x).okc True) (hy : (evt tm_ y).un = (.t (.v (.int k n)))) (hy_ : (evt tm_ y).okc True) (h0 : True → n ≠ 0) (hw : True → k.wrap (m.tdiv n) = r) (hN : Nat.blt d N_ = true) (hK : TriL P ops l_ K ⟨(d, (.t (.v (.int k r)))) :: tm_, N_, hp_, lo_, n_⟩) : TriL P ops (⟨some d, .binOp .quo t x y t', ty, pos, af, none⟩ :: l_) K ⟨tm_, N_, hp_, lo_, n_⟩ :=
  .vo rfl rfl hN (PO.quo (s := ⟨tm_, N_, hp_, lo_, n_⟩) ⟨hx, hx_⟩ ⟨hy, hy_⟩ h0 hw).vo hK
theorem G.quo {j_ g_ : Nat} {e_ want_ : Bool} {k : IntKind} {t t' : TypeId} {x y : Operand} {m n r : Int} (hx : (evt tm_ x).un = (.t (.v (.int k m)))) (hx_ : (evt tm_ x).okc (e_ = true)) (hy : (evt tm_ y).un = (.t (.v (.int k n)))) (hy_ : (evt tm_ y).okc (e_ = true)) (h0 : e_ = true → n ≠ 0) (hw : e_ = true → k.wrap (m.tdiv n) = r) (hj_ : (ops[j_]?).bind (·.dst) = some g_) (hb_ : gval (evt tm_ (.tmp g_)) want_ = some e_) (hN : Nat.blt d N_ = true) (hK : TriL P ops l_ K ⟨(d, .cond e_ true (.t (.v (.int k r)))) :: tm_, N_, hp_, lo_, n_⟩) : TriL P ops (⟨some d, .binOp .quo t x y t', ty, pos, af, some (j_, want_)⟩ :: l_) K ⟨tm_, N_, hp_, lo_, n_⟩ :=
  .gvo rfl hj_ hb_ rfl hN (PO.quo (s := ⟨tm_, N_, hp_, lo_, n_⟩) ⟨hx, hx_⟩ ⟨hy, hy_⟩ h0 hw).vo hK
theorem U.rem {k : IntKind} {t t' : TypeId} {x y : Operand} {m n : Int} (hx : (evt tm_ x).un = (.t (.v (.int k m)))) (hx_ : (evt tm_ x).okc True) (hy : (evt tm_ y).un = (.t (.v (.int k n)))) (hy_ : (evt tm_ y).okc True) (h0 : True → n ≠ 0) (hN : Nat.blt d N_ = true) (hK : TriL P ops l_ K ⟨(d, (.t (.v (.int k (m.tmod n))))) :: tm_, N_, hp_, lo_, n_⟩) : TriL P ops (⟨some d, .binOp .rem t x y t', ty, pos, af, none⟩ :: l_) K ⟨tm_, N_, hp_, lo_, n_⟩ :=
  .vo rfl rfl hN (PO.rem (s := ⟨tm_, N_, hp_, lo_, n_⟩) ⟨hx, hx_⟩ ⟨hy, hy_⟩ h0).vo hK
theorem G.rem {j_ g_ : Nat} {e_ want_ : Bool} {k : IntKind} {t t' : TypeId} {x y : Operand} {m n : Int} (hx : (evt tm_ x).un = (.t (.v (.int k m)))) (hx_ : (evt tm_ x).okc (e_ = true)) (hy : (evt tm_ y).un = (.t (.v (.int k n)))) (hy_ : (evt tm_ y).okc (e_ = true)) (h0 : e_ = true → n ≠ 0) (hj_ : (ops[j_]?).bind (·.dst) = some g_) (hb_ : gval (evt tm_ (.tmp g_)) want_ = some e_) (hN : Nat.blt d N_ = true) (hK : TriL P ops l_ K ⟨(d, .cond e_ true (.t (.v (.int k (m.tmod n))))) :: tm_, N_, hp_, lo_, n_⟩) : TriL P ops (⟨some d, .binOp .rem t x y t', ty, pos, af, some (j_, want_)⟩ :: l_) K ⟨tm_, N_, hp_, lo_, n_⟩ :=
  .gvo rfl hj_ hb_ rfl hN (PO.rem (s := ⟨tm_, N_, hp_, lo_, n_⟩) ⟨hx, hx_⟩ ⟨hy, hy_⟩ h0).vo hK
theorem U.cat {t t' : TypeId} {x y : Operand} {m n : ByteArray} (hx : (evt tm_ x).un = (.t (.v (.string m)))) (hx_ : (evt tm_ x).okc True) (hy : (evt tm_ y).un = (.t (.v (.string n)))) (hy_ : (evt tm_ y).okc True) (hw : True → m.size + n.size ≤ 4611686018427387904) (hN : Nat.blt d N_ = true) (hK : TriL P ops l_ K ⟨(d, (.t (.v (.string (m ++ n))))) :: tm_, N_, hp_, lo_, n_⟩) : TriL P ops (⟨some d, .binOp .add t x y t', ty, pos, af, none⟩ :: l_) K ⟨tm_, N_, hp_, lo_, n_⟩ :=
  .vo rfl rfl hN (PO.cat (s := ⟨tm_, N_, hp_, lo_, n_⟩) ⟨hx, hx_⟩ ⟨hy, hy_⟩ hw).vo hK
theorem G.cat {j_ g_ : Nat} {e_ want_ : Bool} {t t' : TypeId} {x y : Operand} {m n : ByteArray} (hx : (evt tm_ x).un = (.t (.v (.string m)))) (hx_ : (evt tm_ x).okc (e_ = true)) (hy : (evt tm_ y).un = (.t (.v (.string n)))) (hy_ : (evt tm_ y).okc (e_ = true)) (hw : e_ = true → m.size + n.size ≤ 4611686018427387904) (hj_ : (ops[j_]?).bind (·.dst) = some g_) (hb_ : gval (evt tm_ (.tmp g_)) want_ = some e_) (hN : Nat.blt d N_ = true) (hK : TriL P ops l_ K ⟨(d, .cond e_ true (.t (.v (.string (m ++ n))))) :: tm_, N_, hp_, lo_, n_⟩) : TriL P ops (⟨some d, .binOp .add t x y t', ty, pos, af, some (j_, want_)⟩ :: l_) K ⟨tm_, N_, hp_, lo_, n_⟩ :=
  .gvo rfl hj_ hb_ rfl hN (PO.cat (s := ⟨tm_, N_, hp_, lo_, n_⟩) ⟨hx, hx_⟩ ⟨hy, hy_⟩ hw).vo hK
theorem U.eqb {t t' : TypeId} {x y : Operand} {m n : Bool} {sz bytes : Nat} {z : Value} [ht : TyIs P t .bool sz bytes z] (hx : (evt tm_ x).un = (.t (.v (.bool m)))) (hx_ : (evt tm_ x).okc True) (hy : (evt tm_ y).un = (.t (.v (.bool n)))) (hy_ : (evt tm_ y).okc True) (hN : Nat.blt d N_ = true) (hK : TriL P ops l_ K ⟨(d, (.t (.v (.bool (decide (m = n)))))) :: tm_, N_, hp_, lo_, n_⟩) : TriL P ops (⟨some d, .binOp .eql t x y t', ty, pos, af, none⟩ :: l_) K ⟨tm_, N_, hp_, lo_, n_⟩ :=
  .vo rfl rfl hN (PO.eqb (s := ⟨tm_, N_, hp_, lo_, n_⟩) ⟨hx, hx_⟩ ⟨hy, hy_⟩).vo hK
theorem G.eqb {j_ g_ : Nat} {e_ want_ : Bool} {t t' : TypeId} {x y : Operand} {m n : Bool} {sz bytes : Nat} {z : Value} [ht : TyIs P t .bool sz bytes z] (hx : (evt tm_ x).un = (.t (.v (.bool m)))) (hx_ : (evt tm_ x).okc (e_ = true)) (hy : (evt tm_ y).un = (.t (.v (.bool n)))) (hy_ : (evt tm_ y).okc (e_ = true)) (hj_ : (ops[j_]?).bind (·.dst) = some g_) (hb_ : gval (evt tm_ (.tmp g_)) want_ = some e_) (hN : Nat.blt d N_ = true) (hK : TriL P ops l_ K ⟨(d, .cond e_ true (.t (.v (.bool (decide (m = n)))))) :: tm_, N_, hp_, lo_, n_⟩) : TriL P ops (⟨some d, .binOp .eql t x y t', ty, pos, af, some (j_, want_)⟩ :: l_) K ⟨tm_, N_, hp_, lo_, n_⟩ :=
  .gvo rfl hj_ hb_ rfl hN (PO.eqb (s := ⟨tm_, N_, hp_, lo_, n_⟩) ⟨hx, hx_⟩ ⟨hy, hy_⟩).vo hK
theorem U.neb {t t' : TypeId} {x y : Operand} {m n : Bool} {sz bytes : Nat} {z : Value} [ht : TyIs P t .bool sz bytes z] (hx : (evt tm_ x).un = (.t (.v (.bool m)))) (hx_ : (evt tm_ x).okc True) (hy : (evt tm_ y).un = (.t (.v (.bool n)))) (hy_ : (evt tm_ y).okc True) (hN : Nat.blt d N_ = true) (hK : TriL P ops l_ K ⟨(d, (.t (.v (.bool (decide (m ≠ n)))))) :: tm_, N_, hp_, lo_, n_⟩) : TriL P ops (⟨some d, .binOp .neq t x y t', ty, pos, af, none⟩ :: l_) K ⟨tm_, N_, hp_, lo_, n_⟩ :=
  .vo rfl rfl hN (PO.neb (s := ⟨tm_, N_, hp_, lo_, n_⟩) ⟨hx, hx_⟩ ⟨hy, hy_⟩).vo hK
theorem G.neb {j_ g_ : Nat} {e_ want_ : Bool} {t t' : TypeId} {x y : Operand} {m n : Bool} {sz bytes : Nat} {z : Value} [ht : TyIs P t .bool sz bytes z] (hx : (evt tm_ x).un = (.t (.v (.bool m)))) (hx_ : (evt tm_ x).okc (e_ = true)) (hy : (evt tm_ y).un = (.t (.v (.bool n)))) (hy_ : (evt tm_ y).okc (e_ = true)) (hj_ : (ops[j_]?).bind (·.dst) = some g_) (hb_ : gval (evt tm_ (.tmp g_)) want_ = some e_) (hN : Nat.blt d N_ = true) (hK : TriL P ops l_ K ⟨(d, .cond e_ true (.t (.v (.bool (decide (m ≠ n)))))) :: tm_, N_, hp_, lo_, n_⟩) : TriL P ops (⟨some d, .binOp .neq t x y t', ty, pos, af, some (j_, want_)⟩ :: l_) K ⟨tm_, N_, hp_, lo_, n_⟩ :=
  .gvo rfl hj_ hb_ rfl hN (PO.neb (s := ⟨tm_, N_, hp_, lo_, n_⟩) ⟨hx, hx_⟩ ⟨hy, hy_⟩).vo hK
theorem U.not {t : TypeId} {x : Operand} {m : Bool} (hx : (evt tm_ x).un = (.t (.v (.bool m)))) (hx_ : (evt tm_ x).okc True) (hN : Nat.blt d N_ = true) (hK : TriL P ops l_ K ⟨(d, (.t (.v (.bool (!m))))) :: tm_, N_, hp_, lo_, n_⟩) : TriL P ops (⟨some d, .unOp .not t x, ty, pos, af, none⟩ :: l_) K ⟨tm_, N_, hp_, lo_, n_⟩ :=
  .vo rfl rfl hN (PO.not (s := ⟨tm_, N_, hp_, lo_, n_⟩) ⟨hx, hx_⟩).vo hK
theorem G.not {j_ g_ : Nat} {e_ want_ : Bool} {t : TypeId} {x : Operand} {m : Bool} (hx : (evt tm_ x).un = (.t (.v (.bool m)))) (hx_ : (evt tm_ x).okc (e_ = true)) (hj_ : (ops[j_]?).bind (·.dst) = some g_) (hb_ : gval (evt tm_ (.tmp g_)) want_ = some e_) (hN : Nat.blt d N_ = true) (hK : TriL P ops l_ K ⟨(d, .cond e_ true (.t (.v (.bool (!m))))) :: tm_, N_, hp_, lo_, n_⟩) : TriL P ops (⟨some d, .unOp .not t x, ty, pos, af, some (j_, want_)⟩ :: l_) K ⟨tm_, N_, hp_, lo_, n_⟩ :=
  .gvo rfl hj_ hb_ rfl hN (PO.not (s := ⟨tm_, N_, hp_, lo_, n_⟩) ⟨hx, hx_⟩).vo hK
theorem U.neg {t : TypeId} {x : Operand} {k : IntKind} {m : Int} (hx : (evt tm_ x).un = (.t (.v (.int k m)))) (hx_ : (evt tm_ x).okc True) (hN : Nat.blt d N_ = true) (hK : TriL P ops l_ K ⟨(d, (.t (.v (.int k (k.wrap (0 - m)))))) :: tm_, N_, hp_, lo_, n_⟩) : TriL P ops (⟨some d, .unOp .neg t x, ty, pos, af, none⟩ :: l_) K ⟨tm_, N_, hp_, lo_, n_⟩ :=
  .vo rfl rfl hN (PO.neg (s := ⟨tm_, N_, hp_, lo_, n_⟩) ⟨hx, hx_⟩).vo hK
theorem G.neg {j_ g_ : Nat} {e_ want_ : Bool} {t : TypeId} {x : Operand} {k : IntKind} {m : Int} (hx : (evt tm_ x).un = (.t (.v (.int k m)))) (hx_ : (evt tm_ x).okc (e_ = true)) (hj_ : (ops[j_]?).bind (·.dst) = some g_) (hb_ : gval (evt tm_ (.tmp g_)) want_ = some e_) (hN : Nat.blt d N_ = true) (hK : TriL P ops l_ K ⟨(d, .cond e_ true (.t (.v (.int k (k.wrap (0 - m)))))) :: tm_, N_, hp_, lo_, n_⟩) : TriL P ops (⟨some d, .unOp .neg t x, ty, pos, af, some (j_, want_)⟩ :: l_) K ⟨tm_, N_, hp_, lo_, n_⟩ :=
  .gvo rfl hj_ hb_ rfl hN (PO.neg (s := ⟨tm_, N_, hp_, lo_, n_⟩) ⟨hx, hx_⟩).vo hK
theorem U.conv {src dst : TypeId} {x : Operand} {k k' : IntKind} {m r : Int} {ds : TypeDesc} {sz bytes sz' bytes' : Nat} {z z' : Value} [hs1 : TyIs P src ds sz bytes z] [ht : TyIs P dst (.int k') sz' bytes' z'] (hx : (evt tm_ x).un = (.t (.v (.int k m)))) (hx_ : (evt tm_ x).okc True) (hw : k'.wrap m = r) (hN : Nat.blt d N_ = true) (hK : TriL P ops l_ K ⟨(d, (.t (.v (.int k' r)))) :: tm_, N_, hp_, lo_, n_⟩) : TriL P ops (⟨some d, .convert src dst x, ty, pos, af, none⟩ :: l_) K ⟨tm_, N_, hp_, lo_, n_⟩ :=
  .vo rfl rfl hN (PO.conv (s := ⟨tm_, N_, hp_, lo_, n_⟩) ⟨hx, hx_⟩ hw).vo hK
theorem G.conv {j_ g_ : Nat} {e_ want_ : Bool} {src dst : TypeId} {x : Operand} {k k' : IntKind} {m r : Int} {ds : TypeDesc} {sz bytes sz' bytes' : Nat} {z z' : Value} [hs1 : TyIs P src ds sz bytes z] [ht : TyIs P dst (.int k') sz' bytes' z'] (hx : (evt tm_ x).un = (.t (.v (.int k m)))) (hx_ : (evt tm_ x).okc (e_ = true)) (hw : k'.wrap m = r) (hj_ : (ops[j_]?).bind (·.dst) = some g_) (hb_ : gval (evt tm_ (.tmp g_)) want_ = some e_) (hN : Nat.blt d N_ = true) (hK : TriL P ops l_ K ⟨(d, .cond e_ true (.t (.v (.int k' r)))) :: tm_, N_, hp_, lo_, n_⟩) : TriL P ops (⟨some d, .convert src dst x, ty, pos, af, some (j_, want_)⟩ :: l_) K ⟨tm_, N_, hp_, lo_, n_⟩ :=
  .gvo rfl hj_ hb_ rfl hN (PO.conv (s := ⟨tm_, N_, hp_, lo_, n_⟩) ⟨hx, hx_⟩ hw).vo hK
theorem U.idxS {t : TypeId} {x y : Operand} {k : IntKind} {b : ByteArray} {i : Int} {sz bytes : Nat} {z : Value} [ht : TyIs P t .string sz bytes z] (hx : (evt tm_ x).un = (.t (.v (.string b)))) (hx_ : (evt tm_ x).okc True) (hy : (evt tm_ y).un = (.t (.v (.int k i)))) (hy_ : (evt tm_ y).okc True) (h0 : True → 0 ≤ i) (h1 : True → i < b.size) (hN : Nat.blt d N_ = true) (hK : TriL P ops l_ K ⟨(d, (.t (.v (.int .u8 (byteAt b i).toNat)))) :: tm_, N_, hp_, lo_, n_⟩) : TriL P ops (⟨some d, .index t x y, ty, pos, af, none⟩ :: l_) K ⟨tm_, N_, hp_, lo_, n_⟩ :=
  .vo rfl rfl hN (PO.idxS (s := ⟨tm_, N_, hp_, lo_, n_⟩) ⟨hx, hx_⟩ ⟨hy, hy_⟩ h0 h1).vo hK
theorem G.idxS {j_ g_ : Nat} {e_ want_ : Bool} {t : TypeId} {x y : Operand} {k : IntKind} {b : ByteArray} {i : Int} {sz bytes : Nat} {z : Value} [ht : TyIs P t .string sz bytes z] (hx : (evt tm_ x).un = (.t (.v (.string b)))) (hx_ : (evt tm_ x).okc (e_ = true)) (hy : (evt tm_ y).un = (.t (.v (.int k i)))) (hy_ : (evt tm_ y).okc (e_ = true)) (h0 : e_ = true → 0 ≤ i) (h1 : e_ = true → i < b.size) (hj_ : (ops[j_]?).bind (·.dst) = some g_) (hb_ : gval (evt tm_ (.tmp g_)) want_ = some e_) (hN : Nat.blt d N_ = true) (hK : TriL P ops l_ K ⟨(d, .cond e_ true (.t (.v (.int .u8 (byteAt b i).toNat)))) :: tm_, N_, hp_, lo_, n_⟩) : TriL P ops (⟨some d, .index t x y, ty, pos, af, some (j_, want_)⟩ :: l_) K ⟨tm_, N_, hp_, lo_, n_⟩ :=
  .gvo rfl hj_ hb_ rfl hN (PO.idxS (s := ⟨tm_, N_, hp_, lo_, n_⟩) ⟨hx, hx_⟩ ⟨hy, hy_⟩ h0 h1).vo hK
theorem U.lenS {t : TypeId} {x : Operand} {b : ByteArray} {sz bytes : Nat} {z : Value} [ht : TyIs P t .string sz bytes z] (hx : (evt tm_ x).un = (.t (.v (.string b)))) (hx_ : (evt tm_ x).okc True) (hN : Nat.blt d N_ = true) (hK : TriL P ops l_ K ⟨(d, (.t (.v (.int .i64 b.size)))) :: tm_, N_, hp_, lo_, n_⟩) : TriL P ops (⟨some d, .call ⟨.builtin .len, #[x], #[t]⟩, ty, pos, af, none⟩ :: l_) K ⟨tm_, N_, hp_, lo_, n_⟩ :=
  .vo rfl rfl hN (PO.lenS (s := ⟨tm_, N_, hp_, lo_, n_⟩) ⟨hx, hx_⟩).vo hK
theorem G.lenS {j_ g_ : Nat} {e_ want_ : Bool} {t : TypeId} {x : Operand} {b : ByteArray} {sz bytes : Nat} {z : Value} [ht : TyIs P t .string sz bytes z] (hx : (evt tm_ x).un = (.t (.v (.string b)))) (hx_ : (evt tm_ x).okc (e_ = true)) (hj_ : (ops[j_]?).bind (·.dst) = some g_) (hb_ : gval (evt tm_ (.tmp g_)) want_ = some e_) (hN : Nat.blt d N_ = true) (hK : TriL P ops l_ K ⟨(d, .cond e_ true (.t (.v (.int .i64 b.size)))) :: tm_, N_, hp_, lo_, n_⟩) : TriL P ops (⟨some d, .call ⟨.builtin .len, #[x], #[t]⟩, ty, pos, af, some (j_, want_)⟩ :: l_) K ⟨tm_, N_, hp_, lo_, n_⟩ :=
  .gvo rfl hj_ hb_ rfl hN (PO.lenS (s := ⟨tm_, N_, hp_, lo_, n_⟩) ⟨hx, hx_⟩).vo hK
theorem U.load {bt : Option TypeId} {t : TypeId} {x : Operand} {ds : TypeDesc} {sz bytes : Nat} {z : Value} {b o : Nat} {ls : List PV} {p : PV} [ht : TyIs P t ds sz bytes z] (hd : aggD ds = false) (hx : (evt tm_ x).un = (.ptr b o)) (hx_ : (evt tm_ x).okc True) (hb : look b hp_ = some (.obj ls bt)) (hp : ls[o]? = some p) (hN : Nat.blt d N_ = true) (hK : TriL P ops l_ K ⟨(d, p) :: tm_, N_, hp_, lo_, n_⟩) : TriL P ops (⟨some d, .load t x, ty, pos, af, none⟩ :: l_) K ⟨tm_, N_, hp_, lo_, n_⟩ :=
  .vo rfl rfl hN (PO.load (s := ⟨tm_, N_, hp_, lo_, n_⟩) hd ⟨hx, hx_⟩ hb hp).vo hK
theorem G.load {j_ g_ : Nat} {e_ want_ : Bool} {bt : Option TypeId} {t : TypeId} {x : Operand} {ds : TypeDesc} {sz bytes : Nat} {z : Value} {b o : Nat} {ls : List PV} {p : PV} [ht : TyIs P t ds sz bytes z] (hd : aggD ds = false) (hx : (evt tm_ x).un = (.ptr b o)) (hx_ : (evt tm_ x).okc (e_ = true)) (hb : look b hp_ = some (.obj ls bt)) (hp : ls[o]? = some p) (hj_ : (ops[j_]?).bind (·.dst) = some g_) (hb_ : gval (evt tm_ (.tmp g_)) want_ = some e_) (hN : Nat.blt d N_ = true) (hK : TriL P ops l_ K ⟨(d, .cond e_ true p) :: tm_, N_, hp_, lo_, n_⟩) : TriL P ops (⟨some d, .load t x, ty, pos, af, some (j_, want_)⟩ :: l_) K ⟨tm_, N_, hp_, lo_, n_⟩ :=
  .gvo rfl hj_ hb_ rfl hN (PO.load (s := ⟨tm_, N_, hp_, lo_, n_⟩) hd ⟨hx, hx_⟩ hb hp).vo hK
theorem U.loadS {bt : Option TypeId} {t : TypeId} {x : Operand} {ds : TypeDesc} {sz bytes : Nat} {z : Value} {b o : Nat} {ls qs : List PV} {p : PV} [ht : TyIs P t ds sz bytes z] (hd : aggD ds = true) (hx : (evt tm_ x).un = (.ptr b o)) (hx_ : (evt tm_ x).okc True) (hb : look b hp_ = some (.obj ls bt)) (hq : (ls.drop o).take sz = qs) (hn : qs.length = sz) (hp : mkAgg qs = p) (hN : Nat.blt d N_ = true) (hK : TriL P ops l_ K ⟨(d, p) :: tm_, N_, hp_, lo_, n_⟩) : TriL P ops (⟨some d, .load t x, ty, pos, af, none⟩ :: l_) K ⟨tm_, N_, hp_, lo_, n_⟩ :=
  .vo rfl rfl hN (PO.loadS (s := ⟨tm_, N_, hp_, lo_, n_⟩) hd ⟨hx, hx_⟩ hb hq hn hp).vo hK
theorem G.loadS {j_ g_ : Nat} {e_ want_ : Bool} {bt : Option TypeId} {t : TypeId} {x : Operand} {ds : TypeDesc} {sz bytes : Nat} {z : Value} {b o : Nat} {ls qs : List PV} {p : PV} [ht : TyIs P t ds sz bytes z] (hd : aggD ds = true) (hx : (evt tm_ x).un = (.ptr b o)) (hx_ : (evt tm_ x).okc (e_ = true)) (hb : look b hp_ = some (.obj ls bt)) (hq : (ls.drop o).take sz = qs) (hn : qs.length = sz) (hp : mkAgg qs = p) (hj_ : (ops[j_]?).bind (·.dst) = some g_) (hb_ : gval (evt tm_ (.tmp g_)) want_ = some e_) (hN : Nat.blt d N_ = true) (hK : TriL P ops l_ K ⟨(d, .cond e_ true p) :: tm_, N_, hp_, lo_, n_⟩) : TriL P ops (⟨some d, .load t x, ty, pos, af, some (j_, want_)⟩ :: l_) K ⟨tm_, N_, hp_, lo_, n_⟩ :=
  .gvo rfl hj_ hb_ rfl hN (PO.loadS (s := ⟨tm_, N_, hp_, lo_, n_⟩) hd ⟨hx, hx_⟩ hb hq hn hp).vo hK
theorem U.loadE {t : TypeId} {x : Operand} {ds : TypeDesc} {sz bytes : Nat} {z : Value} {y p : T} {o : Nat} [ht : TyIs P t ds sz bytes z] (hd : aggD ds = false) (hx : (evt tm_ x).un = (.eptr y o)) (hx_ : (evt tm_ x).okc True) (hp : y.leaves[o]? = some p) (hN : Nat.blt d N_ = true) (hK : TriL P ops l_ K ⟨(d, (.t p)) :: tm_, N_, hp_, lo_, n_⟩) : TriL P ops (⟨some d, .load t x, ty, pos, af, none⟩ :: l_) K ⟨tm_, N_, hp_, lo_, n_⟩ :=
  .vo rfl rfl hN (PO.loadE (s := ⟨tm_, N_, hp_, lo_, n_⟩) hd ⟨hx, hx_⟩ hp).vo hK
theorem G.loadE {j_ g_ : Nat} {e_ want_ : Bool} {t : TypeId} {x : Operand} {ds : TypeDesc} {sz bytes : Nat} {z : Value} {y p : T} {o : Nat} [ht : TyIs P t ds sz bytes z] (hd : aggD ds = false) (hx : (evt tm_ x).un = (.eptr y o)) (hx_ : (evt tm_ x).okc (e_ = true)) (hp : y.leaves[o]? = some p) (hj_ : (ops[j_]?).bind (·.dst) = some g_) (hb_ : gval (evt tm_ (.tmp g_)) want_ = some e_) (hN : Nat.blt d N_ = true) (hK : TriL P ops l_ K ⟨(d, .cond e_ true (.t p)) :: tm_, N_, hp_, lo_, n_⟩) : TriL P ops (⟨some d, .load t x, ty, pos, af, some (j_, want_)⟩ :: l_) K ⟨tm_, N_, hp_, lo_, n_⟩ :=
  .gvo rfl hj_ hb_ rfl hN (PO.loadE (s := ⟨tm_, N_, hp_, lo_, n_⟩) hd ⟨hx, hx_⟩ hp).vo hK
theorem U.loadES {t : TypeId} {x : Operand} {ds : TypeDesc} {sz bytes : Nat} {z : Value} {y : T} {ls : List T} [ht : TyIs P t ds sz bytes z] (hd : aggD ds = true) (hx : (evt tm_ x).un = (.eptr y 0)) (hx_ : (evt tm_ x).okc True) (hy : y = .agg ls) (hn : ls.length = sz) (hN : Nat.blt d N_ = true) (hK : TriL P ops l_ K ⟨(d, (.t y)) :: tm_, N_, hp_, lo_, n_⟩) : TriL P ops (⟨some d, .load t x, ty, pos, af, none⟩ :: l_) K ⟨tm_, N_, hp_, lo_, n_⟩ :=
  .vo rfl rfl hN (PO.loadES (s := ⟨tm_, N_, hp_, lo_, n_⟩) hd ⟨hx, hx_⟩ hy hn).vo hK
theorem G.loadES {j_ g_ : Nat} {e_ want_ : Bool} {t : TypeId} {x : Operand} {ds : TypeDesc} {sz bytes : Nat} {z : Value} {y : T} {ls : List T} [ht : TyIs P t ds sz bytes z] (hd : aggD ds = true) (hx : (evt tm_ x).un = (.eptr y 0)) (hx_ : (evt tm_ x).okc (e_ = true)) (hy : y = .agg ls) (hn : ls.length = sz) (hj_ : (ops[j_]?).bind (·.dst) = some g_) (hb_ : gval (evt tm_ (.tmp g_)) want_ = some e_) (hN : Nat.blt d N_ = true) (hK : TriL P ops l_ K ⟨(d, .cond e_ true (.t y)) :: tm_, N_, hp_, lo_, n_⟩) : TriL P ops (⟨some d, .load t x, ty, pos, af, some (j_, want_)⟩ :: l_) K ⟨tm_, N_, hp_, lo_, n_⟩ :=
  .gvo rfl hj_ hb_ rfl hN (PO.loadES (s := ⟨tm_, N_, hp_, lo_, n_⟩) hd ⟨hx, hx_⟩ hy hn).vo hK
theorem U.loadR {t : TypeId} {x : Operand} {ds : TypeDesc} {sz bytes : Nat} {z : Value} {b e i o : Nat} {xs : List T} {fz : Bool} {y p : T} [ht : TyIs P t ds sz bytes z] (hd : aggD ds = false) (hx : (evt tm_ x).un = (.rptr b e i o)) (hx_ : (evt tm_ x).okc True) (hb : look b hp_ = some (.row e xs fz)) (hy : xs[i]? = some y) (hp : y.leaves[o]? = some p) (hN : Nat.blt d N_ = true) (hK : TriL P ops l_ K ⟨(d, (.t p)) :: tm_, N_, hp_, lo_, n_⟩) : TriL P ops (⟨some d, .load t x, ty, pos, af, none⟩ :: l_) K ⟨tm_, N_, hp_, lo_, n_⟩ :=
  .vo rfl rfl hN (PO.loadR (s := ⟨tm_, N_, hp_, lo_, n_⟩) hd ⟨hx, hx_⟩ hb hy hp).vo hK
theorem G.loadR {j_ g_ : Nat} {e_ want_ : Bool} {t : TypeId} {x : Operand} {ds : TypeDesc} {sz bytes : Nat} {z : Value} {b e i o : Nat} {xs : List T} {fz : Bool} {y p : T} [ht : TyIs P t ds sz bytes z] (hd : aggD ds = false) (hx : (evt tm_ x).un = (.rptr b e i o)) (hx_ : (evt tm_ x).okc (e_ = true)) (hb : look b hp_ = some (.row e xs fz)) (hy : xs[i]? = some y) (hp : y.leaves[o]? = some p) (hj_ : (ops[j_]?).bind (·.dst) = some g_) (hb_ : gval (evt tm_ (.tmp g_)) want_ = some e_) (hN : Nat.blt d N_ = true) (hK : TriL P ops l_ K ⟨(d, .cond e_ true (.t p)) :: tm_, N_, hp_, lo_, n_⟩) : TriL P ops (⟨some d, .load t x, ty, pos, af, some (j_, want_)⟩ :: l_) K ⟨tm_, N_, hp_, lo_, n_⟩ :=
  .gvo rfl hj_ hb_ rfl hN (PO.loadR (s := ⟨tm_, N_, hp_, lo_, n_⟩) hd ⟨hx, hx_⟩ hb hy hp).vo hK
theorem U.fld {t ft : TypeId} {x : Operand} {f : Nat} {fs : Array Field} {off : Nat} {sz bytes fsz fbytes : Nat} {z fz : Value} {fd : TypeDesc} {b o : Nat} [ht : TyIs P t (.struct fs) sz bytes z] (hx : (evt tm_ x).un = (.ptr b o)) (hx_ : (evt tm_ x).okc True) (hf : fldAt fs.toList f = some (ft, off)) (hft' : TyIs P ft fd fsz fbytes fz) (h0 : fsz ≠ 0) (hN : Nat.blt d N_ = true) (hK : TriL P ops l_ K ⟨(d, (.ptr b (o + off))) :: tm_, N_, hp_, lo_, n_⟩) : TriL P ops (⟨some d, .fieldAddr t x f, ty, pos, af, none⟩ :: l_) K ⟨tm_, N_, hp_, lo_, n_⟩ :=
  .vo rfl rfl hN (PO.fld (s := ⟨tm_, N_, hp_, lo_, n_⟩) ⟨hx, hx_⟩ hf hft' h0).vo hK
theorem G.fld {j_ g_ : Nat} {e_ want_ : Bool} {t ft : TypeId} {x : Operand} {f : Nat} {fs : Array Field} {off : Nat} {sz bytes fsz fbytes : Nat} {z fz : Value} {fd : TypeDesc} {b o : Nat} [ht : TyIs P t (.struct fs) sz bytes z] (hx : (evt tm_ x).un = (.ptr b o)) (hx_ : (evt tm_ x).okc (e_ = true)) (hf : fldAt fs.toList f = some (ft, off)) (hft' : TyIs P ft fd fsz fbytes fz) (h0 : fsz ≠ 0) (hj_ : (ops[j_]?).bind (·.dst) = some g_) (hb_ : gval (evt tm_ (.tmp g_)) want_ = some e_) (hN : Nat.blt d N_ = true) (hK : TriL P ops l_ K ⟨(d, .cond e_ true (.ptr b (o + off))) :: tm_, N_, hp_, lo_, n_⟩) : TriL P ops (⟨some d, .fieldAddr t x f, ty, pos, af, some (j_, want_)⟩ :: l_) K ⟨tm_, N_, hp_, lo_, n_⟩ :=
  .gvo rfl hj_ hb_ rfl hN (PO.fld (s := ⟨tm_, N_, hp_, lo_, n_⟩) ⟨hx, hx_⟩ hf hft' h0).vo hK
theorem U.fldE {t ft : TypeId} {x : Operand} {f : Nat} {fs : Array Field} {off : Nat} {sz bytes fsz fbytes : Nat} {z fz : Value} {fd : TypeDesc} {y : T} {o : Nat} [ht : TyIs P t (.struct fs) sz bytes z] (hx : (evt tm_ x).un = (.eptr y o)) (hx_ : (evt tm_ x).okc True) (hf : fldAt fs.toList f = some (ft, off)) (hft' : TyIs P ft fd fsz fbytes fz) (h0 : fsz ≠ 0) (hN : Nat.blt d N_ = true) (hK : TriL P ops l_ K ⟨(d, (.eptr y (o + off))) :: tm_, N_, hp_, lo_, n_⟩) : TriL P ops (⟨some d, .fieldAddr t x f, ty, pos, af, none⟩ :: l_) K ⟨tm_, N_, hp_, lo_, n_⟩ :=
  .vo rfl rfl hN (PO.fldE (s := ⟨tm_, N_, hp_, lo_, n_⟩) ⟨hx, hx_⟩ hf hft' h0).vo hK
theorem G.fldE {j_ g_ : Nat} {e_ want_ : Bool} {t ft : TypeId} {x : Operand} {f : Nat} {fs : Array Field} {off : Nat} {sz bytes fsz fbytes : Nat} {z fz : Value} {fd : TypeDesc} {y : T} {o : Nat} [ht : TyIs P t (.struct fs) sz bytes z] (hx : (evt tm_ x).un = (.eptr y o)) (hx_ : (evt tm_ x).okc (e_ = true)) (hf : fldAt fs.toList f = some (ft, off)) (hft' : TyIs P ft fd fsz fbytes fz) (h0 : fsz ≠ 0) (hj_ : (ops[j_]?).bind (·.dst) = some g_) (hb_ : gval (evt tm_ (.tmp g_)) want_ = some e_) (hN : Nat.blt d N_ = true) (hK : TriL P ops l_ K ⟨(d, .cond e_ true (.eptr y (o + off))) :: tm_, N_, hp_, lo_, n_⟩) : TriL P ops (⟨some d, .fieldAddr t x f, ty, pos, af, some (j_, want_)⟩ :: l_) K ⟨tm_, N_, hp_, lo_, n_⟩ :=
  .gvo rfl hj_ hb_ rfl hN (PO.fldE (s := ⟨tm_, N_, hp_, lo_, n_⟩) ⟨hx, hx_⟩ hf hft' h0).vo hK
theorem U.fldR {t ft : TypeId} {x : Operand} {f : Nat} {fs : Array Field} {off : Nat} {sz bytes fsz fbytes : Nat} {z fz : Value} {fd : TypeDesc} {b e i o : Nat} [ht : TyIs P t (.struct fs) sz bytes z] (hx : (evt tm_ x).un = (.rptr b e i o)) (hx_ : (evt tm_ x).okc True) (hf : fldAt fs.toList f = some (ft, off)) (hft' : TyIs P ft fd fsz fbytes fz) (h0 : fsz ≠ 0) (hN : Nat.blt d N_ = true) (hK : TriL P ops l_ K ⟨(d, (.rptr b e i (o + off))) :: tm_, N_, hp_, lo_, n_⟩) : TriL P ops (⟨some d, .fieldAddr t x f, ty, pos, af, none⟩ :: l_) K ⟨tm_, N_, hp_, lo_, n_⟩ :=
  .vo rfl rfl hN (PO.fldR (s := ⟨tm_, N_, hp_, lo_, n_⟩) ⟨hx, hx_⟩ hf hft' h0).vo hK
theorem G.fldR {j_ g_ : Nat} {e_ want_ : Bool} {t ft : TypeId} {x : Operand} {f : Nat} {fs : Array Field} {off : Nat} {sz bytes fsz fbytes : Nat} {z fz : Value} {fd : TypeDesc} {b e i o : Nat} [ht : TyIs P t (.struct fs) sz bytes z] (hx : (evt tm_ x).un = (.rptr b e i o)) (hx_ : (evt tm_ x).okc (e_ = true)) (hf : fldAt fs.toList f = some (ft, off)) (hft' : TyIs P ft fd fsz fbytes fz) (h0 : fsz ≠ 0) (hj_ : (ops[j_]?).bind (·.dst) = some g_) (hb_ : gval (evt tm_ (.tmp g_)) want_ = some e_) (hN : Nat.blt d N_ = true) (hK : TriL P ops l_ K ⟨(d, .cond e_ true (.rptr b e i (o + off))) :: tm_, N_, hp_, lo_, n_⟩) : TriL P ops (⟨some d, .fieldAddr t x f, ty, pos, af, some (j_, want_)⟩ :: l_) K ⟨tm_, N_, hp_, lo_, n_⟩ :=
  .gvo rfl hj_ hb_ rfl hN (PO.fldR (s := ⟨tm_, N_, hp_, lo_, n_⟩) ⟨hx, hx_⟩ hf hft' h0).vo hK
theorem U.idx {t et : TypeId} {x y : Operand} {k : IntKind} {i : Int} {n : Bool} {xs : List T} {e : T} {sz bytes esz ebytes : Nat} {z ez : Value} {ed : TypeDesc} [ht : TyIs P t (.slice et) sz bytes z] [he : TyIs P et ed esz ebytes ez] (hx : (evt tm_ x).un = (.t (.sl n xs))) (hx_ : (evt tm_ x).okc True) (hy : (evt tm_ y).un = (.t (.v (.int k i)))) (hy_ : (evt tm_ y).okc True) (h0 : True → 0 ≤ i) (h1 : True → xs[i.toNat]? = some e) (hl : True → e.leaves.length = esz) (hN : Nat.blt d N_ = true) (hK : TriL P ops l_ K ⟨(d, (.eptr e 0)) :: tm_, N_, hp_, lo_, n_⟩) : TriL P ops (⟨some d, .indexAddr t x y, ty, pos, af, none⟩ :: l_) K ⟨tm_, N_, hp_, lo_, n_⟩ :=
  .vo rfl rfl hN (PO.idx (s := ⟨tm_, N_, hp_, lo_, n_⟩) ⟨hx, hx_⟩ ⟨hy, hy_⟩ h0 h1 hl).vo hK
theorem G.idx {j_ g_ : Nat} {e_ want_ : Bool} {t et : TypeId} {x y : Operand} {k : IntKind} {i : Int} {n : Bool} {xs : List T} {e : T} {sz bytes esz ebytes : Nat} {z ez : Value} {ed : TypeDesc} [ht : TyIs P t (.slice et) sz bytes z] [he : TyIs P et ed esz ebytes ez] (hx : (evt tm_ x).un = (.t (.sl n xs))) (hx_ : (evt tm_ x).okc (e_ = true)) (hy : (evt tm_ y).un = (.t (.v (.int k i)))) (hy_ : (evt tm_ y).okc (e_ = true)) (h0 : e_ = true → 0 ≤ i) (h1 : e_ = true → xs[i.toNat]? = some e) (hl : e_ = true → e.leaves.length = esz) (hj_ : (ops[j_]?).bind (·.dst) = some g_) (hb_ : gval (evt tm_ (.tmp g_)) want_ = some e_) (hN : Nat.blt d N_ = true) (hK : TriL P ops l_ K ⟨(d, .cond e_ true (.eptr e 0)) :: tm_, N_, hp_, lo_, n_⟩) : TriL P ops (⟨some d, .indexAddr t x y, ty, pos, af, some (j_, want_)⟩ :: l_) K ⟨tm_, N_, hp_, lo_, n_⟩ :=
  .gvo rfl hj_ hb_ rfl hN (PO.idx (s := ⟨tm_, N_, hp_, lo_, n_⟩) ⟨hx, hx_⟩ ⟨hy, hy_⟩ h0 h1 hl).vo hK
theorem U.idxR {t et : TypeId} {x y : Operand} {k : IntKind} {i : Int} {b off len cap : Nat} {sz bytes esz ebytes : Nat} {z ez : Value} {ed : TypeDesc} [ht : TyIs P t (.slice et) sz bytes z] [he : TyIs P et ed esz ebytes ez] (hx : (evt tm_ x).un = (.ref b esz off len cap)) (hx_ : (evt tm_ x).okc True) (hy : (evt tm_ y).un = (.t (.v (.int k i)))) (hy_ : (evt tm_ y).okc True) (h0 : True → 0 ≤ i) (h1 : True → i < len) (hN : Nat.blt d N_ = true) (hK : TriL P ops l_ K ⟨(d, (.rptr b esz (off + i.toNat) 0)) :: tm_, N_, hp_, lo_, n_⟩) : TriL P ops (⟨some d, .indexAddr t x y, ty, pos, af, none⟩ :: l_) K ⟨tm_, N_, hp_, lo_, n_⟩ :=
  .vo rfl rfl hN (PO.idxR (s := ⟨tm_, N_, hp_, lo_, n_⟩) ⟨hx, hx_⟩ ⟨hy, hy_⟩ h0 h1).vo hK
theorem G.idxR {j_ g_ : Nat} {e_ want_ : Bool} {t et : TypeId} {x y : Operand} {k : IntKind} {i : Int} {b off len cap : Nat} {sz bytes esz ebytes : Nat} {z ez : Value} {ed : TypeDesc} [ht : TyIs P t (.slice et) sz bytes z] [he : TyIs P et ed esz ebytes ez] (hx : (evt tm_ x).un = (.ref b esz off len cap)) (hx_ : (evt tm_ x).okc (e_ = true)) (hy : (evt tm_ y).un = (.t (.v (.int k i)))) (hy_ : (evt tm_ y).okc (e_ = true)) (h0 : e_ = true → 0 ≤ i) (h1 : e_ = true → i < len) (hj_ : (ops[j_]?).bind (·.dst) = some g_) (hb_ : gval (evt tm_ (.tmp g_)) want_ = some e_) (hN : Nat.blt d N_ = true) (hK : TriL P ops l_ K ⟨(d, .cond e_ true (.rptr b esz (off + i.toNat) 0)) :: tm_, N_, hp_, lo_, n_⟩) : TriL P ops (⟨some d, .indexAddr t x y, ty, pos, af, some (j_, want_)⟩ :: l_) K ⟨tm_, N_, hp_, lo_, n_⟩ :=
  .gvo rfl hj_ hb_ rfl hN (PO.idxR (s := ⟨tm_, N_, hp_, lo_, n_⟩) ⟨hx, hx_⟩ ⟨hy, hy_⟩ h0 h1).vo hK
theorem U.len {t et : TypeId} {x : Operand} {n : Bool} {xs : List T} {sz bytes : Nat} {z : Value} [ht : TyIs P t (.slice et) sz bytes z] (hx : (evt tm_ x).un = (.t (.sl n xs))) (hx_ : (evt tm_ x).okc True) (hN : Nat.blt d N_ = true) (hK : TriL P ops l_ K ⟨(d, (.t (.v (.int .i64 xs.length)))) :: tm_, N_, hp_, lo_, n_⟩) : TriL P ops (⟨some d, .call ⟨.builtin .len, #[x], #[t]⟩, ty, pos, af, none⟩ :: l_) K ⟨tm_, N_, hp_, lo_, n_⟩ :=
  .vo rfl rfl hN (PO.len (s := ⟨tm_, N_, hp_, lo_, n_⟩) ⟨hx, hx_⟩).vo hK
theorem G.len {j_ g_ : Nat} {e_ want_ : Bool} {t et : TypeId} {x : Operand} {n : Bool} {xs : List T} {sz bytes : Nat} {z : Value} [ht : TyIs P t (.slice et) sz bytes z] (hx : (evt tm_ x).un = (.t (.sl n xs))) (hx_ : (evt tm_ x).okc (e_ = true)) (hj_ : (ops[j_]?).bind (·.dst) = some g_) (hb_ : gval (evt tm_ (.tmp g_)) want_ = some e_) (hN : Nat.blt d N_ = true) (hK : TriL P ops l_ K ⟨(d, .cond e_ true (.t (.v (.int .i64 xs.length)))) :: tm_, N_, hp_, lo_, n_⟩) : TriL P ops (⟨some d, .call ⟨.builtin .len, #[x], #[t]⟩, ty, pos, af, some (j_, want_)⟩ :: l_) K ⟨tm_, N_, hp_, lo_, n_⟩ :=
  .gvo rfl hj_ hb_ rfl hN (PO.len (s := ⟨tm_, N_, hp_, lo_, n_⟩) ⟨hx, hx_⟩).vo hK
theorem U.lenR {t et : TypeId} {x : Operand} {b e off len cap : Nat} {sz bytes : Nat} {z : Value} [ht : TyIs P t (.slice et) sz bytes z] (hx : (evt tm_ x).un = (.ref b e off len cap)) (hx_ : (evt tm_ x).okc True) (hN : Nat.blt d N_ = true) (hK : TriL P ops l_ K ⟨(d, (.t (.v (.int .i64 len)))) :: tm_, N_, hp_, lo_, n_⟩) : TriL P ops (⟨some d, .call ⟨.builtin .len, #[x], #[t]⟩, ty, pos, af, none⟩ :: l_) K ⟨tm_, N_, hp_, lo_, n_⟩ :=
  .vo rfl rfl hN (PO.lenR (s := ⟨tm_, N_, hp_, lo_, n_⟩) ⟨hx, hx_⟩).vo hK
theorem G.lenR {j_ g_ : Nat} {e_ want_ : Bool} {t et : TypeId} {x : Operand} {b e off len cap : Nat} {sz bytes : Nat} {z : Value} [ht : TyIs P t (.slice et) sz bytes z] (hx : (evt tm_ x).un = (.ref b e off len cap)) (hx_ : (evt tm_ x).okc (e_ = true)) (hj_ : (ops[j_]?).bind (·.dst) = some g_) (hb_ : gval (evt tm_ (.tmp g_)) want_ = some e_) (hN : Nat.blt d N_ = true) (hK : TriL P ops l_ K ⟨(d, .cond e_ true (.t (.v (.int .i64 len)))) :: tm_, N_, hp_, lo_, n_⟩) : TriL P ops (⟨some d, .call ⟨.builtin .len, #[x], #[t]⟩, ty, pos, af, some (j_, want_)⟩ :: l_) K ⟨tm_, N_, hp_, lo_, n_⟩ :=
  .gvo rfl hj_ hb_ rfl hN (PO.lenR (s := ⟨tm_, N_, hp_, lo_, n_⟩) ⟨hx, hx_⟩).vo hK
theorem U.ext {x : Operand} {ps : List PV} {i : Nat} {p : PV} (hx : (evt tm_ x).un = (.tup ps)) (hx_ : (evt tm_ x).okc True) (hp : ps[i]? = some p) (hN : Nat.blt d N_ = true) (hK : TriL P ops l_ K ⟨(d, p) :: tm_, N_, hp_, lo_, n_⟩) : TriL P ops (⟨some d, .extract x i, ty, pos, af, none⟩ :: l_) K ⟨tm_, N_, hp_, lo_, n_⟩ :=
  .vo rfl rfl hN (PO.ext (s := ⟨tm_, N_, hp_, lo_, n_⟩) ⟨hx, hx_⟩ hp).vo hK
theorem G.ext {j_ g_ : Nat} {e_ want_ : Bool} {x : Operand} {ps : List PV} {i : Nat} {p : PV} (hx : (evt tm_ x).un = (.tup ps)) (hx_ : (evt tm_ x).okc (e_ = true)) (hp : ps[i]? = some p) (hj_ : (ops[j_]?).bind (·.dst) = some g_) (hb_ : gval (evt tm_ (.tmp g_)) want_ = some e_) (hN : Nat.blt d N_ = true) (hK : TriL P ops l_ K ⟨(d, .cond e_ true p) :: tm_, N_, hp_, lo_, n_⟩) : TriL P ops (⟨some d, .extract x i, ty, pos, af, some (j_, want_)⟩ :: l_) K ⟨tm_, N_, hp_, lo_, n_⟩ :=
  .gvo rfl hj_ hb_ rfl hN (PO.ext (s := ⟨tm_, N_, hp_, lo_, n_⟩) ⟨hx, hx_⟩ hp).vo hK
theorem U.nilchk {x : Operand} {b o : Nat} (hx : (evt tm_ x).un = (.ptr b o)) (hx_ : (evt tm_ x).okc True) (hN : Nat.blt d N_ = true) (hK : TriL P ops l_ K ⟨(d, (.ptr b o)) :: tm_, N_, hp_, lo_, n_⟩) : TriL P ops (⟨some d, .nilCheck x, ty, pos, af, none⟩ :: l_) K ⟨tm_, N_, hp_, lo_, n_⟩ :=
  .vo rfl rfl hN (PO.nilchk (s := ⟨tm_, N_, hp_, lo_, n_⟩) ⟨hx, hx_⟩).vo hK
theorem G.nilchk {j_ g_ : Nat} {e_ want_ : Bool} {x : Operand} {b o : Nat} (hx : (evt tm_ x).un = (.ptr b o)) (hx_ : (evt tm_ x).okc (e_ = true)) (hj_ : (ops[j_]?).bind (·.dst) = some g_) (hb_ : gval (evt tm_ (.tmp g_)) want_ = some e_) (hN : Nat.blt d N_ = true) (hK : TriL P ops l_ K ⟨(d, .cond e_ true (.ptr b o)) :: tm_, N_, hp_, lo_, n_⟩) : TriL P ops (⟨some d, .nilCheck x, ty, pos, af, some (j_, want_)⟩ :: l_) K ⟨tm_, N_, hp_, lo_, n_⟩ :=
  .gvo rfl hj_ hb_ rfl hN (PO.nilchk (s := ⟨tm_, N_, hp_, lo_, n_⟩) ⟨hx, hx_⟩).vo hK
theorem U.field {t ft : TypeId} {x : Operand} {f : Nat} {fs : Array Field} {off : Nat} {sz bytes fsz fbytes : Nat} {z fz : Value} {fd : TypeDesc} {p q : PV} [ht : TyIs P t (.struct fs) sz bytes z] (hx : (evt tm_ x).un = p) (hx_ : (evt tm_ x).okc True) (hp : p.known = true) (ha : fldAt fs.toList f = some (ft, off)) (hft' : TyIs P ft fd fsz fbytes fz) (hd : aggD fd = false) (hagg : p.isAgg = true) (hq : p.leaves[off]? = some q) (hN : Nat.blt d N_ = true) (hK : TriL P ops l_ K ⟨(d, q) :: tm_, N_, hp_, lo_, n_⟩) : TriL P ops (⟨some d, .field t x f, ty, pos, af, none⟩ :: l_) K ⟨tm_, N_, hp_, lo_, n_⟩ :=
  .vo rfl rfl hN (PO.field (s := ⟨tm_, N_, hp_, lo_, n_⟩) ⟨hx, hx_⟩ hp ha hft' hd hagg hq).vo hK
theorem G.field {j_ g_ : Nat} {e_ want_ : Bool} {t ft : TypeId} {x : Operand} {f : Nat} {fs : Array Field} {off : Nat} {sz bytes fsz fbytes : Nat} {z fz : Value} {fd : TypeDesc} {p q : PV} [ht : TyIs P t (.struct fs) sz bytes z] (hx : (evt tm_ x).un = p) (hx_ : (evt tm_ x).okc (e_ = true)) (hp : p.known = true) (ha : fldAt fs.toList f = some (ft, off)) (hft' : TyIs P ft fd fsz fbytes fz) (hd : aggD fd = false) (hagg : p.isAgg = true) (hq : p.leaves[off]? = some q) (hj_ : (ops[j_]?).bind (·.dst) = some g_) (hb_ : gval (evt tm_ (.tmp g_)) want_ = some e_) (hN : Nat.blt d N_ = true) (hK : TriL P ops l_ K ⟨(d, .cond e_ true q) :: tm_, N_, hp_, lo_, n_⟩) : TriL P ops (⟨some d, .field t x f, ty, pos, af, some (j_, want_)⟩ :: l_) K ⟨tm_, N_, hp_, lo_, n_⟩ :=
  .gvo rfl hj_ hb_ rfl hN (PO.field (s := ⟨tm_, N_, hp_, lo_, n_⟩) ⟨hx, hx_⟩ hp ha hft' hd hagg hq).vo hK
theorem U.cutHi {t et : TypeId} {x y : Operand} {n : Bool} {xs : List T} {q : IntKind} {j : Int} {sz bytes e ebytes : Nat} {z ez : Value} {ed : TypeDesc} [ht : TyIs P t (.slice et) sz bytes z] [he : TyIs P et ed e ebytes ez] (hx : (evt tm_ x).un = (.t (.sl n xs))) (hx_ : (evt tm_ x).okc True) (hy : (evt tm_ y).un = (.t (.v (.int q j)))) (hy_ : (evt tm_ y).okc True) (h0 : True → 0 ≤ j) (h2 : True → j ≤ xs.length) (hel : True → ∀ (i : Nat) (x : T), xs[i]? = some x → x.leaves.length = e) (hN : Nat.blt d N_ = true) (hK : TriL P ops l_ K ⟨(d, (.t (.sl n (xs.take j.toNat)))) :: tm_, N_, hp_, lo_, n_⟩) : TriL P ops (⟨some d, .slice t x none (some y) none, ty, pos, af, none⟩ :: l_) K ⟨tm_, N_, hp_, lo_, n_⟩ :=
  .vo rfl rfl hN (PO.cutHi (s := ⟨tm_, N_, hp_, lo_, n_⟩) ⟨hx, hx_⟩ ⟨hy, hy_⟩ h0 h2 hel).vo hK
theorem G.cutHi {j_ g_ : Nat} {e_ want_ : Bool} {t et : TypeId} {x y : Operand} {n : Bool} {xs : List T} {q : IntKind} {j : Int} {sz bytes e ebytes : Nat} {z ez : Value} {ed : TypeDesc} [ht : TyIs P t (.slice et) sz bytes z] [he : TyIs P et ed e ebytes ez] (hx : (evt tm_ x).un = (.t (.sl n xs))) (hx_ : (evt tm_ x).okc (e_ = true)) (hy : (evt tm_ y).un = (.t (.v (.int q j)))) (hy_ : (evt tm_ y).okc (e_ = true)) (h0 : e_ = true → 0 ≤ j) (h2 : e_ = true → j ≤ xs.length) (hel : e_ = true → ∀ (i : Nat) (x : T), xs[i]? = some x → x.leaves.length = e) (hj_ : (ops[j_]?).bind (·.dst) = some g_) (hb_ : gval (evt tm_ (.tmp g_)) want_ = some e_) (hN : Nat.blt d N_ = true) (hK : TriL P ops l_ K ⟨(d, .cond e_ true (.t (.sl n (xs.take j.toNat)))) :: tm_, N_, hp_, lo_, n_⟩) : TriL P ops (⟨some d, .slice t x none (some y) none, ty, pos, af, some (j_, want_)⟩ :: l_) K ⟨tm_, N_, hp_, lo_, n_⟩ :=
  .gvo rfl hj_ hb_ rfl hN (PO.cutHi (s := ⟨tm_, N_, hp_, lo_, n_⟩) ⟨hx, hx_⟩ ⟨hy, hy_⟩ h0 h2 hel).vo hK
theorem U.cutLo {t et : TypeId} {x y : Operand} {n : Bool} {xs : List T} {q : IntKind} {j : Int} {sz bytes e ebytes : Nat} {z ez : Value} {ed : TypeDesc} [ht : TyIs P t (.slice et) sz bytes z] [he : TyIs P et ed e ebytes ez] (hx : (evt tm_ x).un = (.t (.sl n xs))) (hx_ : (evt tm_ x).okc True) (hy : (evt tm_ y).un = (.t (.v (.int q j)))) (hy_ : (evt tm_ y).okc True) (h0 : True → 0 ≤ j) (h2 : True → j ≤ xs.length) (hel : True → ∀ (i : Nat) (x : T), xs[i]? = some x → x.leaves.length = e) (hN : Nat.blt d N_ = true) (hK : TriL P ops l_ K ⟨(d, (.t (.sl n (xs.drop j.toNat)))) :: tm_, N_, hp_, lo_, n_⟩) : TriL P ops (⟨some d, .slice t x (some y) none none, ty, pos, af, none⟩ :: l_) K ⟨tm_, N_, hp_, lo_, n_⟩ :=
  .vo rfl rfl hN (PO.cutLo (s := ⟨tm_, N_, hp_, lo_, n_⟩) ⟨hx, hx_⟩ ⟨hy, hy_⟩ h0 h2 hel).vo hK
theorem G.cutLo {j_ g_ : Nat} {e_ want_ : Bool} {t et : TypeId} {x y : Operand} {n : Bool} {xs : List T} {q : IntKind} {j : Int} {sz bytes e ebytes : Nat} {z ez : Value} {ed : TypeDesc} [ht : TyIs P t (.slice et) sz bytes z] [he : TyIs P et ed e ebytes ez] (hx : (evt tm_ x).un = (.t (.sl n xs))) (hx_ : (evt tm_ x).okc (e_ = true)) (hy : (evt tm_ y).un = (.t (.v (.int q j)))) (hy_ : (evt tm_ y).okc (e_ = true)) (h0 : e_ = true → 0 ≤ j) (h2 : e_ = true → j ≤ xs.length) (hel : e_ = true → ∀ (i : Nat) (x : T), xs[i]? = some x → x.leaves.length = e) (hj_ : (ops[j_]?).bind (·.dst) = some g_) (hb_ : gval (evt tm_ (.tmp g_)) want_ = some e_) (hN : Nat.blt d N_ = true) (hK : TriL P ops l_ K ⟨(d, .cond e_ true (.t (.sl n (xs.drop j.toNat)))) :: tm_, N_, hp_, lo_, n_⟩) : TriL P ops (⟨some d, .slice t x (some y) none none, ty, pos, af, some (j_, want_)⟩ :: l_) K ⟨tm_, N_, hp_, lo_, n_⟩ :=
  .gvo rfl hj_ hb_ rfl hN (PO.cutLo (s := ⟨tm_, N_, hp_, lo_, n_⟩) ⟨hx, hx_⟩ ⟨hy, hy_⟩ h0 h2 hel).vo hK
theorem U.cutLH {t et : TypeId} {x y u : Operand} {n : Bool} {xs : List T} {q q' : IntKind} {i j : Int} {sz bytes e ebytes : Nat} {z ez : Value} {ed : TypeDesc} [ht : TyIs P t (.slice et) sz bytes z] [he : TyIs P et ed e ebytes ez] (hx : (evt tm_ x).un = (.t (.sl n xs))) (hx_ : (evt tm_ x).okc True) (hy : (evt tm_ y).un = (.t (.v (.int q i)))) (hy_ : (evt tm_ y).okc True) (hu : (evt tm_ u).un = (.t (.v (.int q' j)))) (hu_ : (evt tm_ u).okc True) (h0 : True → 0 ≤ i) (hij : True → i ≤ j) (h2 : True → j ≤ xs.length) (hel : True → ∀ (i : Nat) (x : T), xs[i]? = some x → x.leaves.length = e) (hN : Nat.blt d N_ = true) (hK : TriL P ops l_ K ⟨(d, (.t (.sl n ((xs.drop i.toNat).take (j.toNat - i.toNat))))) :: tm_, N_, hp_, lo_, n_⟩) : TriL P ops (⟨some d, .slice t x (some y) (some u) none, ty, pos, af, none⟩ :: l_) K ⟨tm_, N_, hp_, lo_, n_⟩ :=
  .vo rfl rfl hN (PO.cutLH (s := ⟨tm_, N_, hp_, lo_, n_⟩) ⟨hx, hx_⟩ ⟨hy, hy_⟩ ⟨hu, hu_⟩ h0 hij h2 hel).vo hK
theorem G.cutLH {j_ g_ : Nat} {e_ want_ : Bool} {t et : TypeId} {x y u : Operand} {n : Bool} {xs : List T} {q q' : IntKind} {i j : Int} {sz bytes e ebytes : Nat} {z ez : Value} {ed : TypeDesc} [ht : TyIs P t (.slice et) sz bytes z] [he : TyIs P et ed e ebytes ez] (hx : (evt tm_ x).un = (.t (.sl n xs))) (hx_ : (evt tm_ x).okc (e_ = true)) (hy : (evt tm_ y).un = (.t (.v (.int q i)))) (hy_ : (evt tm_ y).okc (e_ = true)) (hu : (evt tm_ u).un = (.t (.v (.int q' j)))) (hu_ : (evt tm_ u).okc (e_ = true)) (h0 : e_ = true → 0 ≤ i) (hij : e_ = true → i ≤ j) (h2 : e_ = true → j ≤ xs.length) (hel : e_ = true → ∀ (i : Nat) (x : T), xs[i]? = some x → x.leaves.length = e) (hj_ : (ops[j_]?).bind (·.dst) = some g_) (hb_ : gval (evt tm_ (.tmp g_)) want_ = some e_) (hN : Nat.blt d N_ = true) (hK : TriL P ops l_ K ⟨(d, .cond e_ true (.t (.sl n ((xs.drop i.toNat).take (j.toNat - i.toNat))))) :: tm_, N_, hp_, lo_, n_⟩) : TriL P ops (⟨some d, .slice t x (some y) (some u) none, ty, pos, af, some (j_, want_)⟩ :: l_) K ⟨tm_, N_, hp_, lo_, n_⟩ :=
  .gvo rfl hj_ hb_ rfl hN (PO.cutLH (s := ⟨tm_, N_, hp_, lo_, n_⟩) ⟨hx, hx_⟩ ⟨hy, hy_⟩ ⟨hu, hu_⟩ h0 hij h2 hel).vo hK
theorem U.cutSHi {t : TypeId} {x y : Operand} {b : ByteArray} {q : IntKind} {j : Int} {sz bytes : Nat} {z : Value} [ht : TyIs P t .string sz bytes z] (hx : (evt tm_ x).un = (.t (.v (.string b)))) (hx_ : (evt tm_ x).okc True) (hy : (evt tm_ y).un = (.t (.v (.int q j)))) (hy_ : (evt tm_ y).okc True) (h0 : True → 0 ≤ j) (h2 : True → j ≤ b.size) (hN : Nat.blt d N_ = true) (hK : TriL P ops l_ K ⟨(d, (.t (.v (.string (b.extract 0 j.toNat))))) :: tm_, N_, hp_, lo_, n_⟩) : TriL P ops (⟨some d, .slice t x none (some y) none, ty, pos, af, none⟩ :: l_) K ⟨tm_, N_, hp_, lo_, n_⟩ :=
  .vo rfl rfl hN (PO.cutSHi (s := ⟨tm_, N_, hp_, lo_, n_⟩) ⟨hx, hx_⟩ ⟨hy, hy_⟩ h0 h2).vo hK
theorem G.cutSHi {j_ g_ : Nat} {e_ want_ : Bool} {t : TypeId} {x y : Operand} {b : ByteArray} {q : IntKind} {j : Int} {sz bytes : Nat} {z : Value} [ht : TyIs P t .string sz bytes z] (hx : (evt tm_ x).un = (.t (.v (.string b)))) (hx_ : (evt tm_ x).okc (e_ = true)) (hy : (evt tm_ y).un = (.t (.v (.int q j)))) (hy_ : (evt tm_ y).okc (e_ = true)) (h0 : e_ = true → 0 ≤ j) (h2 : e_ = true → j ≤ b.size) (hj_ : (ops[j_]?).bind (·.dst) = some g_) (hb_ : gval (evt tm_ (.tmp g_)) want_ = some e_) (hN : Nat.blt d N_ = true) (hK : TriL P ops l_ K ⟨(d, .cond e_ true (.t (.v (.string (b.extract 0 j.toNat))))) :: tm_, N_, hp_, lo_, n_⟩) : TriL P ops (⟨some d, .slice t x none (some y) none, ty, pos, af, some (j_, want_)⟩ :: l_) K ⟨tm_, N_, hp_, lo_, n_⟩ :=
  .gvo rfl hj_ hb_ rfl hN (PO.cutSHi (s := ⟨tm_, N_, hp_, lo_, n_⟩) ⟨hx, hx_⟩ ⟨hy, hy_⟩ h0 h2).vo hK
theorem U.cutSLo {t : TypeId} {x y : Operand} {b : ByteArray} {q : IntKind} {j : Int} {sz bytes : Nat} {z : Value} [ht : TyIs P t .string sz bytes z] (hx : (evt tm_ x).un = (.t (.v (.string b)))) (hx_ : (evt tm_ x).okc True) (hy : (evt tm_ y).un = (.t (.v (.int q j)))) (hy_ : (evt tm_ y).okc True) (h0 : True → 0 ≤ j) (h2 : True → j ≤ b.size) (hN : Nat.blt d N_ = true) (hK : TriL P ops l_ K ⟨(d, (.t (.v (.string (b.extract j.toNat b.size))))) :: tm_, N_, hp_, lo_, n_⟩) : TriL P ops (⟨some d, .slice t x (some y) none none, ty, pos, af, none⟩ :: l_) K ⟨tm_, N_, hp_, lo_, n_⟩ :=
  .vo rfl rfl hN (PO.cutSLo (s := ⟨tm_, N_, hp_, lo_, n_⟩) ⟨hx, hx_⟩ ⟨hy, hy_⟩ h0 h2).vo hK
theorem G.cutSLo {j_ g_ : Nat} {e_ want_ : Bool} {t : TypeId} {x y : Operand} {b : ByteArray} {q : IntKind} {j : Int} {sz bytes : Nat} {z : Value} [ht : TyIs P t .string sz bytes z] (hx : (evt tm_ x).un = (.t (.v (.string b)))) (hx_ : (evt tm_ x).okc (e_ = true)) (hy : (evt tm_ y).un = (.t (.v (.int q j)))) (hy_ : (evt tm_ y).okc (e_ = true)) (h0 : e_ = true → 0 ≤ j) (h2 : e_ = true → j ≤ b.size) (hj_ : (ops[j_]?).bind (·.dst) = some g_) (hb_ : gval (evt tm_ (.tmp g_)) want_ = some e_) (hN : Nat.blt d N_ = true) (hK : TriL P ops l_ K ⟨(d, .cond e_ true (.t (.v (.string (b.extract j.toNat b.size))))) :: tm_, N_, hp_, lo_, n_⟩) : TriL P ops (⟨some d, .slice t x (some y) none none, ty, pos, af, some (j_, want_)⟩ :: l_) K ⟨tm_, N_, hp_, lo_, n_⟩ :=
  .gvo rfl hj_ hb_ rfl hN (PO.cutSLo (s := ⟨tm_, N_, hp_, lo_, n_⟩) ⟨hx, hx_⟩ ⟨hy, hy_⟩ h0 h2).vo hK
theorem U.cutSLH {t : TypeId} {x y u : Operand} {b : ByteArray} {q q' : IntKind} {i j : Int} {sz bytes : Nat} {z : Value} [ht : TyIs P t .string sz bytes z] (hx : (evt tm_ x).un = (.t (.v (.string b)))) (hx_ : (evt tm_ x).okc True) (hy : (evt tm_ y).un = (.t (.v (.int q i)))) (hy_ : (evt tm_ y).okc True) (hu : (evt tm_ u).un = (.t (.v (.int q' j)))) (hu_ : (evt tm_ u).okc True) (h0 : True → 0 ≤ i) (h1 : True → i ≤ j) (h2 : True → j ≤ b.size) (hN : Nat.blt d N_ = true) (hK : TriL P ops l_ K ⟨(d, (.t (.v (.string (b.extract i.toNat j.toNat))))) :: tm_, N_, hp_, lo_, n_⟩) : TriL P ops (⟨some d, .slice t x (some y) (some u) none, ty, pos, af, none⟩ :: l_) K ⟨tm_, N_, hp_, lo_, n_⟩ :=
  .vo rfl rfl hN (PO.cutSLH (s := ⟨tm_, N_, hp_, lo_, n_⟩) ⟨hx, hx_⟩ ⟨hy, hy_⟩ ⟨hu, hu_⟩ h0 h1 h2).vo hK
theorem G.cutSLH {j_ g_ : Nat} {e_ want_ : Bool} {t : TypeId} {x y u : Operand} {b : ByteArray} {q q' : IntKind} {i j : Int} {sz bytes : Nat} {z : Value} [ht : TyIs P t .string sz bytes z] (hx : (evt tm_ x).un = (.t (.v (.string b)))) (hx_ : (evt tm_ x).okc (e_ = true)) (hy : (evt tm_ y).un = (.t (.v (.int q i)))) (hy_ : (evt tm_ y).okc (e_ = true)) (hu : (evt tm_ u).un = (.t (.v (.int q' j)))) (hu_ : (evt tm_ u).okc (e_ = true)) (h0 : e_ = true → 0 ≤ i) (h1 : e_ = true → i ≤ j) (h2 : e_ = true → j ≤ b.size) (hj_ : (ops[j_]?).bind (·.dst) = some g_) (hb_ : gval (evt tm_ (.tmp g_)) want_ = some e_) (hN : Nat.blt d N_ = true) (hK : TriL P ops l_ K ⟨(d, .cond e_ true (.t (.v (.string (b.extract i.toNat j.toNat))))) :: tm_, N_, hp_, lo_, n_⟩) : TriL P ops (⟨some d, .slice t x (some y) (some u) none, ty, pos, af, some (j_, want_)⟩ :: l_) K ⟨tm_, N_, hp_, lo_, n_⟩ :=
  .gvo rfl hj_ hb_ rfl hN (PO.cutSLH (s := ⟨tm_, N_, hp_, lo_, n_⟩) ⟨hx, hx_⟩ ⟨hy, hy_⟩ ⟨hu, hu_⟩ h0 h1 h2).vo hK
theorem U.cutRHi {t et : TypeId} {x y : Operand} {b off len cap : Nat} {q : IntKind} {j : Int} {sz bytes e ebytes : Nat} {z ez : Value} {ed : TypeDesc} [ht : TyIs P t (.slice et) sz bytes z] [he : TyIs P et ed e ebytes ez] (hx : (evt tm_ x).un = (.ref b e off len cap)) (hx_ : (evt tm_ x).okc True) (hy : (evt tm_ y).un = (.t (.v (.int q j)))) (hy_ : (evt tm_ y).okc True) (h0 : True → 0 ≤ j) (h2 : True → j ≤ cap) (h3 : 0 < cap) (hN : Nat.blt d N_ = true) (hK : TriL P ops l_ K ⟨(d, (.ref b e off j.toNat cap)) :: tm_, N_, hp_, lo_, n_⟩) : TriL P ops (⟨some d, .slice t x none (some y) none, ty, pos, af, none⟩ :: l_) K ⟨tm_, N_, hp_, lo_, n_⟩ :=
  .vo rfl rfl hN (PO.cutRHi (s := ⟨tm_, N_, hp_, lo_, n_⟩) ⟨hx, hx_⟩ ⟨hy, hy_⟩ h0 h2 h3).vo hK
theorem G.cutRHi {j_ g_ : Nat} {e_ want_ : Bool} {t et : TypeId} {x y : Operand} {b off len cap : Nat} {q : IntKind} {j : Int} {sz bytes e ebytes : Nat} {z ez : Value} {ed : TypeDesc} [ht : TyIs P t (.slice et) sz bytes z] [he : TyIs P et ed e ebytes ez] (hx : (evt tm_ x).un = (.ref b e off len cap)) (hx_ : (evt tm_ x).okc (e_ = true)) (hy : (evt tm_ y).un = (.t (.v (.int q j)))) (hy_ : (evt tm_ y).okc (e_ = true)) (h0 : e_ = true → 0 ≤ j) (h2 : e_ = true → j ≤ cap) (h3 : 0 < cap) (hj_ : (ops[j_]?).bind (·.dst) = some g_) (hb_ : gval (evt tm_ (.tmp g_)) want_ = some e_) (hN : Nat.blt d N_ = true) (hK : TriL P ops l_ K ⟨(d, .cond e_ true (.ref b e off j.toNat cap)) :: tm_, N_, hp_, lo_, n_⟩) : TriL P ops (⟨some d, .slice t x none (some y) none, ty, pos, af, some (j_, want_)⟩ :: l_) K ⟨tm_, N_, hp_, lo_, n_⟩ :=
  .gvo rfl hj_ hb_ rfl hN (PO.cutRHi (s := ⟨tm_, N_, hp_, lo_, n_⟩) ⟨hx, hx_⟩ ⟨hy, hy_⟩ h0 h2 h3).vo hK
theorem U.max {k : IntKind} {t t' : TypeId} {x y : Operand} {m n : Int} (hx : (evt tm_ x).un = (.t (.v (.int k m)))) (hx_ : (evt tm_ x).okc True) (hy : (evt tm_ y).un = (.t (.v (.int k n)))) (hy_ : (evt tm_ y).okc True) (hN : Nat.blt d N_ = true) (hK : TriL P ops l_ K ⟨(d, (.t (.v (.int k (Max.max m n))))) :: tm_, N_, hp_, lo_, n_⟩) : TriL P ops (⟨some d, .call ⟨.builtin .max, #[x, y], #[t, t']⟩, ty, pos, af, none⟩ :: l_) K ⟨tm_, N_, hp_, lo_, n_⟩ :=
  .vo rfl rfl hN (PO.max (s := ⟨tm_, N_, hp_, lo_, n_⟩) ⟨hx, hx_⟩ ⟨hy, hy_⟩).vo hK
theorem G.max {j_ g_ : Nat} {e_ want_ : Bool} {k : IntKind} {t t' : TypeId} {x y : Operand} {m n : Int} (hx : (evt tm_ x).un = (.t (.v (.int k m)))) (hx_ : (evt tm_ x).okc (e_ = true)) (hy : (evt tm_ y).un = (.t (.v (.int k n)))) (hy_ : (evt tm_ y).okc (e_ = true)) (hj_ : (ops[j_]?).bind (·.dst) = some g_) (hb_ : gval (evt tm_ (.tmp g_)) want_ = some e_) (hN : Nat.blt d N_ = true) (hK : TriL P ops l_ K ⟨(d, .cond e_ true (.t (.v (.int k (Max.max m n))))) :: tm_, N_, hp_, lo_, n_⟩) : TriL P ops (⟨some d, .call ⟨.builtin .max, #[x, y], #[t, t']⟩, ty, pos, af, some (j_, want_)⟩ :: l_) K ⟨tm_, N_, hp_, lo_, n_⟩ :=
  .gvo rfl hj_ hb_ rfl hN (PO.max (s := ⟨tm_, N_, hp_, lo_, n_⟩) ⟨hx, hx_⟩ ⟨hy, hy_⟩).vo hK
theorem U.min {k : IntKind} {t t' : TypeId} {x y : Operand} {m n : Int} (hx : (evt tm_ x).un = (.t (.v (.int k m)))) (hx_ : (evt tm_ x).okc True) (hy : (evt tm_ y).un = (.t (.v (.int k n)))) (hy_ : (evt tm_ y).okc True) (hN : Nat.blt d N_ = true) (hK : TriL P ops l_ K ⟨(d, (.t (.v (.int k (Min.min m n))))) :: tm_, N_, hp_, lo_, n_⟩) : TriL P ops (⟨some d, .call ⟨.builtin .min, #[x, y], #[t, t']⟩, ty, pos, af, none⟩ :: l_) K ⟨tm_, N_, hp_, lo_, n_⟩ :=
  .vo rfl rfl hN (PO.min (s := ⟨tm_, N_, hp_, lo_, n_⟩) ⟨hx, hx_⟩ ⟨hy, hy_⟩).vo hK
theorem G.min {j_ g_ : Nat} {e_ want_ : Bool} {k : IntKind} {t t' : TypeId} {x y : Operand} {m n : Int} (hx : (evt tm_ x).un = (.t (.v (.int k m)))) (hx_ : (evt tm_ x).okc (e_ = true)) (hy : (evt tm_ y).un = (.t (.v (.int k n)))) (hy_ : (evt tm_ y).okc (e_ = true)) (hj_ : (ops[j_]?).bind (·.dst) = some g_) (hb_ : gval (evt tm_ (.tmp g_)) want_ = some e_) (hN : Nat.blt d N_ = true) (hK : TriL P ops l_ K ⟨(d, .cond e_ true (.t (.v (.int k (Min.min m n))))) :: tm_, N_, hp_, lo_, n_⟩) : TriL P ops (⟨some d, .call ⟨.builtin .min, #[x, y], #[t, t']⟩, ty, pos, af, some (j_, want_)⟩ :: l_) K ⟨tm_, N_, hp_, lo_, n_⟩ :=
  .gvo rfl hj_ hb_ rfl hN (PO.min (s := ⟨tm_, N_, hp_, lo_, n_⟩) ⟨hx, hx_⟩ ⟨hy, hy_⟩).vo hK
theorem U.imag {k : FloatKind} {t : TypeId} {x : Operand} {re im : Nat} (hx : (evt tm_ x).un = (.t (.v (.complex k re im)))) (hx_ : (evt tm_ x).okc True) (hN : Nat.blt d N_ = true) (hK : TriL P ops l_ K ⟨(d, (.t (.v (.float k im)))) :: tm_, N_, hp_, lo_, n_⟩) : TriL P ops (⟨some d, .call ⟨.builtin .imag, #[x], #[t]⟩, ty, pos, af, none⟩ :: l_) K ⟨tm_, N_, hp_, lo_, n_⟩ :=
  .vo rfl rfl hN (PO.imag (s := ⟨tm_, N_, hp_, lo_, n_⟩) ⟨hx, hx_⟩).vo hK
theorem G.imag {j_ g_ : Nat} {e_ want_ : Bool} {k : FloatKind} {t : TypeId} {x : Operand} {re im : Nat} (hx : (evt tm_ x).un = (.t (.v (.complex k re im)))) (hx_ : (evt tm_ x).okc (e_ = true)) (hj_ : (ops[j_]?).bind (·.dst) = some g_) (hb_ : gval (evt tm_ (.tmp g_)) want_ = some e_) (hN : Nat.blt d N_ = true) (hK : TriL P ops l_ K ⟨(d, .cond e_ true (.t (.v (.float k im)))) :: tm_, N_, hp_, lo_, n_⟩) : TriL P ops (⟨some d, .call ⟨.builtin .imag, #[x], #[t]⟩, ty, pos, af, some (j_, want_)⟩ :: l_) K ⟨tm_, N_, hp_, lo_, n_⟩ :=
  .gvo rfl hj_ hb_ rfl hN (PO.imag (s := ⟨tm_, N_, hp_, lo_, n_⟩) ⟨hx, hx_⟩).vo hK
theorem U.real {k : FloatKind} {t : TypeId} {x : Operand} {re im : Nat} (hx : (evt tm_ x).un = (.t (.v (.complex k re im)))) (hx_ : (evt tm_ x).okc True) (hN : Nat.blt d N_ = true) (hK : TriL P ops l_ K ⟨(d, (.t (.v (.float k re)))) :: tm_, N_, hp_, lo_, n_⟩) : TriL P ops (⟨some d, .call ⟨.builtin .real, #[x], #[t]⟩, ty, pos, af, none⟩ :: l_) K ⟨tm_, N_, hp_, lo_, n_⟩ :=
  .vo rfl rfl hN (PO.real (s := ⟨tm_, N_, hp_, lo_, n_⟩) ⟨hx, hx_⟩).vo hK
theorem G.real {j_ g_ : Nat} {e_ want_ : Bool} {k : FloatKind} {t : TypeId} {x : Operand} {re im : Nat} (hx : (evt tm_ x).un = (.t (.v (.complex k re im)))) (hx_ : (evt tm_ x).okc (e_ = true)) (hj_ : (ops[j_]?).bind (·.dst) = some g_) (hb_ : gval (evt tm_ (.tmp g_)) want_ = some e_) (hN : Nat.blt d N_ = true) (hK : TriL P ops l_ K ⟨(d, .cond e_ true (.t (.v (.float k re)))) :: tm_, N_, hp_, lo_, n_⟩) : TriL P ops (⟨some d, .call ⟨.builtin .real, #[x], #[t]⟩, ty, pos, af, some (j_, want_)⟩ :: l_) K ⟨tm_, N_, hp_, lo_, n_⟩ :=
  .gvo rfl hj_ hb_ rfl hN (PO.real (s := ⟨tm_, N_, hp_, lo_, n_⟩) ⟨hx, hx_⟩).vo hK
theorem U.cplx {k : FloatKind} {t t' : TypeId} {x y : Operand} {re im : Nat} (hx : (evt tm_ x).un = (.t (.v (.float k re)))) (hx_ : (evt tm_ x).okc True) (hy : (evt tm_ y).un = (.t (.v (.float k im)))) (hy_ : (evt tm_ y).okc True) (hN : Nat.blt d N_ = true) (hK : TriL P ops l_ K ⟨(d, (.t (.v (.complex k re im)))) :: tm_, N_, hp_, lo_, n_⟩) : TriL P ops (⟨some d, .call ⟨.builtin .complex, #[x, y], #[t, t']⟩, ty, pos, af, none⟩ :: l_) K ⟨tm_, N_, hp_, lo_, n_⟩ :=
  .vo rfl rfl hN (PO.cplx (s := ⟨tm_, N_, hp_, lo_, n_⟩) ⟨hx, hx_⟩ ⟨hy, hy_⟩).vo hK
theorem G.cplx {j_ g_ : Nat} {e_ want_ : Bool} {k : FloatKind} {t t' : TypeId} {x y : Operand} {re im : Nat} (hx : (evt tm_ x).un = (.t (.v (.float k re)))) (hx_ : (evt tm_ x).okc (e_ = true)) (hy : (evt tm_ y).un = (.t (.v (.float k im)))) (hy_ : (evt tm_ y).okc (e_ = true)) (hj_ : (ops[j_]?).bind (·.dst) = some g_) (hb_ : gval (evt tm_ (.tmp g_)) want_ = some e_) (hN : Nat.blt d N_ = true) (hK : TriL P ops l_ K ⟨(d, .cond e_ true (.t (.v (.complex k re im)))) :: tm_, N_, hp_, lo_, n_⟩) : TriL P ops (⟨some d, .call ⟨.builtin .complex, #[x, y], #[t, t']⟩, ty, pos, af, some (j_, want_)⟩ :: l_) K ⟨tm_, N_, hp_, lo_, n_⟩ :=
  .gvo rfl hj_ hb_ rfl hN (PO.cplx (s := ⟨tm_, N_, hp_, lo_, n_⟩) ⟨hx, hx_⟩ ⟨hy, hy_⟩).vo hK
theorem U.i2f {src dst : TypeId} {x : Operand} {q : IntKind} {k : FloatKind} {n : Int} {ds : TypeDesc} {sz bytes sz' bytes' : Nat} {z z' : Value} [hs1 : TyIs P src ds sz bytes z] [ht : TyIs P dst (.float k) sz' bytes' z'] (hx : (evt tm_ x).un = (.t (.v (.int q n)))) (hx_ : (evt tm_ x).okc True) (hN : Nat.blt d N_ = true) (hK : TriL P ops l_ K ⟨(d, (.t (.v (.float k (floatOfInt k n))))) :: tm_, N_, hp_, lo_, n_⟩) : TriL P ops (⟨some d, .convert src dst x, ty, pos, af, none⟩ :: l_) K ⟨tm_, N_, hp_, lo_, n_⟩ :=
  .vo rfl rfl hN (PO.i2f (s := ⟨tm_, N_, hp_, lo_, n_⟩) ⟨hx, hx_⟩).vo hK
theorem G.i2f {j_ g_ : Nat} {e_ want_ : Bool} {src dst : TypeId} {x : Operand} {q : IntKind} {k : FloatKind} {n : Int} {ds : TypeDesc} {sz bytes sz' bytes' : Nat} {z z' : Value} [hs1 : TyIs P src ds sz bytes z] [ht : TyIs P dst (.float k) sz' bytes' z'] (hx : (evt tm_ x).un = (.t (.v (.int q n)))) (hx_ : (evt tm_ x).okc (e_ = true)) (hj_ : (ops[j_]?).bind (·.dst) = some g_) (hb_ : gval (evt tm_ (.tmp g_)) want_ = some e_) (hN : Nat.blt d N_ = true) (hK : TriL P ops l_ K ⟨(d, .cond e_ true (.t (.v (.float k (floatOfInt k n))))) :: tm_, N_, hp_, lo_, n_⟩) : TriL P ops (⟨some d, .convert src dst x, ty, pos, af, some (j_, want_)⟩ :: l_) K ⟨tm_, N_, hp_, lo_, n_⟩ :=
  .gvo rfl hj_ hb_ rfl hN (PO.i2f (s := ⟨tm_, N_, hp_, lo_, n_⟩) ⟨hx, hx_⟩).vo hK
theorem U.f2i {src dst : TypeId} {x : Operand} {q : IntKind} {k : FloatKind} {u : Nat} {n : Int} {ds : TypeDesc} {sz bytes sz' bytes' : Nat} {z z' : Value} [hs1 : TyIs P src ds sz bytes z] [ht : TyIs P dst (.int q) sz' bytes' z'] (hx : (evt tm_ x).un = (.t (.v (.float k u)))) (hx_ : (evt tm_ x).okc True) (hn : True → floatToIntVal k u q = some n) (hN : Nat.blt d N_ = true) (hK : TriL P ops l_ K ⟨(d, (.t (.v (.int q n)))) :: tm_, N_, hp_, lo_, n_⟩) : TriL P ops (⟨some d, .convert src dst x, ty, pos, af, none⟩ :: l_) K ⟨tm_, N_, hp_, lo_, n_⟩ :=
  .vo rfl rfl hN (PO.f2i (s := ⟨tm_, N_, hp_, lo_, n_⟩) ⟨hx, hx_⟩ hn).vo hK
theorem G.f2i {j_ g_ : Nat} {e_ want_ : Bool} {src dst : TypeId} {x : Operand} {q : IntKind} {k : FloatKind} {u : Nat} {n : Int} {ds : TypeDesc} {sz bytes sz' bytes' : Nat} {z z' : Value} [hs1 : TyIs P src ds sz bytes z] [ht : TyIs P dst (.int q) sz' bytes' z'] (hx : (evt tm_ x).un = (.t (.v (.float k u)))) (hx_ : (evt tm_ x).okc (e_ = true)) (hn : e_ = true → floatToIntVal k u q = some n) (hj_ : (ops[j_]?).bind (·.dst) = some g_) (hb_ : gval (evt tm_ (.tmp g_)) want_ = some e_) (hN : Nat.blt d N_ = true) (hK : TriL P ops l_ K ⟨(d, .cond e_ true (.t (.v (.int q n)))) :: tm_, N_, hp_, lo_, n_⟩) : TriL P ops (⟨some d, .convert src dst x, ty, pos, af, some (j_, want_)⟩ :: l_) K ⟨tm_, N_, hp_, lo_, n_⟩ :=
  .gvo rfl hj_ hb_ rfl hN (PO.f2i (s := ⟨tm_, N_, hp_, lo_, n_⟩) ⟨hx, hx_⟩ hn).vo hK
theorem U.shl {k k' : IntKind} {t t' : TypeId} {x y : Operand} {m n : Int} (hx : (evt tm_ x).un = (.t (.v (.int k m)))) (hx_ : (evt tm_ x).okc True) (hy : (evt tm_ y).un = (.t (.v (.int k' n)))) (hy_ : (evt tm_ y).okc True) (h0 : True → 0 ≤ n) (hN : Nat.blt d N_ = true) (hK : TriL P ops l_ K ⟨(d, (.t (.v (.int k (k.wrap (m * 2 ^ Nat.min n.toNat k.bits)))))) :: tm_, N_, hp_, lo_, n_⟩) : TriL P ops (⟨some d, .binOp .shl t x y t', ty, pos, af, none⟩ :: l_) K ⟨tm_, N_, hp_, lo_, n_⟩ :=
  .vo rfl rfl hN (PO.shl (s := ⟨tm_, N_, hp_, lo_, n_⟩) ⟨hx, hx_⟩ ⟨hy, hy_⟩ h0).vo hK
theorem G.shl {j_ g_ : Nat} {e_ want_ : Bool} {k k' : IntKind} {t t' : TypeId} {x y : Operand} {m n : Int} (hx : (evt tm_ x).un = (.t (.v (.int k m)))) (hx_ : (evt tm_ x).okc (e_ = true)) (hy : (evt tm_ y).un = (.t (.v (.int k' n)))) (hy_ : (evt tm_ y).okc (e_ = true)) (h0 : e_ = true → 0 ≤ n) (hj_ : (ops[j_]?).bind (·.dst) = some g_) (hb_ : gval (evt tm_ (.tmp g_)) want_ = some e_) (hN : Nat.blt d N_ = true) (hK : TriL P ops l_ K ⟨(d, .cond e_ true (.t (.v (.int k (k.wrap (m * 2 ^ Nat.min n.toNat k.bits)))))) :: tm_, N_, hp_, lo_, n_⟩) : TriL P ops (⟨some d, .binOp .shl t x y t', ty, pos, af, some (j_, want_)⟩ :: l_) K ⟨tm_, N_, hp_, lo_, n_⟩ :=
  .gvo rfl hj_ hb_ rfl hN (PO.shl (s := ⟨tm_, N_, hp_, lo_, n_⟩) ⟨hx, hx_⟩ ⟨hy, hy_⟩ h0).vo hK
theorem U.shr {k k' : IntKind} {t t' : TypeId} {x y : Operand} {m n : Int} (hx : (evt tm_ x).un = (.t (.v (.int k m)))) (hx_ : (evt tm_ x).okc True) (hy : (evt tm_ y).un = (.t (.v (.int k' n)))) (hy_ : (evt tm_ y).okc True) (h0 : True → 0 ≤ n) (hN : Nat.blt d N_ = true) (hK : TriL P ops l_ K ⟨(d, (.t (.v (.int k (m / 2 ^ Nat.min n.toNat k.bits))))) :: tm_, N_, hp_, lo_, n_⟩) : TriL P ops (⟨some d, .binOp .shr t x y t', ty, pos, af, none⟩ :: l_) K ⟨tm_, N_, hp_, lo_, n_⟩ :=
  .vo rfl rfl hN (PO.shr (s := ⟨tm_, N_, hp_, lo_, n_⟩) ⟨hx, hx_⟩ ⟨hy, hy_⟩ h0).vo hK
theorem G.shr {j_ g_ : Nat} {e_ want_ : Bool} {k k' : IntKind} {t t' : TypeId} {x y : Operand} {m n : Int} (hx : (evt tm_ x).un = (.t (.v (.int k m)))) (hx_ : (evt tm_ x).okc (e_ = true)) (hy : (evt tm_ y).un = (.t (.v (.int k' n)))) (hy_ : (evt tm_ y).okc (e_ = true)) (h0 : e_ = true → 0 ≤ n) (hj_ : (ops[j_]?).bind (·.dst) = some g_) (hb_ : gval (evt tm_ (.tmp g_)) want_ = some e_) (hN : Nat.blt d N_ = true) (hK : TriL P ops l_ K ⟨(d, .cond e_ true (.t (.v (.int k (m / 2 ^ Nat.min n.toNat k.bits))))) :: tm_, N_, hp_, lo_, n_⟩) : TriL P ops (⟨some d, .binOp .shr t x y t', ty, pos, af, some (j_, want_)⟩ :: l_) K ⟨tm_, N_, hp_, lo_, n_⟩ :=
  .gvo rfl hj_ hb_ rfl hN (PO.shr (s := ⟨tm_, N_, hp_, lo_, n_⟩) ⟨hx, hx_⟩ ⟨hy, hy_⟩ h0).vo hK

/-! ### what makes blocks, what writes them -/
theorem U.box {t : TypeId} {x : Operand} {p : PV} {ls : List PV} (hx : evt tm_ x = p) (hp : p.known = true) (hl : p.leaves = ls) (hN : Nat.blt d N_ = true)
    (hK : TriL P ops l_ K ⟨(d, .ptr n_ 0) :: tm_, N_, (n_, .obj ls) :: hp_, lo_, n_ + 1⟩) : TriL P ops (⟨some d, .box t x, ty, pos, af, none⟩ :: l_) K ⟨tm_, N_, hp_, lo_, n_⟩ :=
  .cons rfl (.box hx hp hl hN hK)
theorem U.boxA {t : TypeId} {x : Operand} {xs : List T} (hx : evt tm_ x = .t (.agg xs)) (hN : Nat.blt d N_ = true)
    (hK : TriL P ops l_ K ⟨(d, .ptr n_ 0) :: tm_, N_, (n_, .obj (xs.map .t)) :: hp_, lo_, n_ + 1⟩) : TriL P ops (⟨some d, .box t x, ty, pos, af, none⟩ :: l_) K ⟨tm_, N_, hp_, lo_, n_⟩ :=
  U.box hx rfl rfl hN hK
theorem U.alloc {t : TypeId} {ds : TypeDesc} {sz bytes : Nat} {z : Value} {p : PV} {ls : List PV} [ht : TyIs P t ds sz bytes z] (hz : ofConst z = p) (hp : p.known = true) (hl : p.leaves = ls) (hN : Nat.blt d N_ = true)
    (hK : TriL P ops l_ K ⟨(d, .ptr n_ 0) :: tm_, N_, (n_, .obj ls) :: hp_, lo_, n_ + 1⟩) : TriL P ops (⟨some d, .alloc t, ty, pos, af, none⟩ :: l_) K ⟨tm_, N_, hp_, lo_, n_⟩ :=
  .cons rfl (.alloc hz hp hl hN hK)
theorem set_splice {α : Type} (q : α) : ∀ (ls : List α) (o : Nat), o < ls.length → ls.take o ++ [q] ++ ls.drop (o + [q].length) = ls.set o q
  | [], o, h => by simp at h
  | x :: ls, 0, _ => by simp
  | x :: ls, o + 1, h => by have := set_splice q ls o (by simpa using h); simpa using this
/-- Calls whose answer is a tree. -/
theorem U.call1 {x y : Operand} {f : FuncId} {ts : Array TypeId} {u r : T} [hf : FnIs P f] (hx : evt tm_ x = .t (.v (.func (.func f) #[] #[]))) (hy : (evt tm_ y).toT = some u) (hr : E.Pure P f [u] (.one (.t r))) (hN : Nat.blt d N_ = true)
    (hK : TriL P ops l_ K ⟨(d, .t r) :: tm_, N_, hp_, lo_, n_⟩) : TriL P ops (⟨some d, .call ⟨.value x, #[y], ts⟩, ty, pos, af, none⟩ :: l_) K ⟨tm_, N_, hp_, lo_, n_⟩ :=
  .cons rfl (.call (xs := [y]) (s1 := ⟨tm_, N_, hp_, lo_, n_⟩) hx rfl (.tree hy .nil) hr hN hK)
theorem U.call2 {x y z : Operand} {f : FuncId} {ts : Array TypeId} {u v r : T} [hf : FnIs P f] (hx : evt tm_ x = .t (.v (.func (.func f) #[] #[]))) (hy : (evt tm_ y).toT = some u) (hz : (evt tm_ z).toT = some v) (hr : E.Pure P f [u, v] (.one (.t r))) (hN : Nat.blt d N_ = true)
    (hK : TriL P ops l_ K ⟨(d, .t r) :: tm_, N_, hp_, lo_, n_⟩) : TriL P ops (⟨some d, .call ⟨.value x, #[y, z], ts⟩, ty, pos, af, none⟩ :: l_) K ⟨tm_, N_, hp_, lo_, n_⟩ :=
  .cons rfl (.call (xs := [y, z]) (s1 := ⟨tm_, N_, hp_, lo_, n_⟩) hx rfl (.tree hy (.tree hz .nil)) hr hN hK)
theorem U.call3 {x y z q : Operand} {f : FuncId} {ts : Array TypeId} {u v a r : T} [hf : FnIs P f] (hx : evt tm_ x = .t (.v (.func (.func f) #[] #[]))) (hy : (evt tm_ y).toT = some u) (hz : (evt tm_ z).toT = some v) (hq : (evt tm_ q).toT = some a) (hr : E.Pure P f [u, v, a] (.one (.t r))) (hN : Nat.blt d N_ = true)
    (hK : TriL P ops l_ K ⟨(d, .t r) :: tm_, N_, hp_, lo_, n_⟩) : TriL P ops (⟨some d, .call ⟨.value x, #[y, z, q], ts⟩, ty, pos, af, none⟩ :: l_) K ⟨tm_, N_, hp_, lo_, n_⟩ :=
  .cons rfl (.call (xs := [y, z, q]) (s1 := ⟨tm_, N_, hp_, lo_, n_⟩) hx rfl (.tree hy (.tree hz (.tree hq .nil))) hr hN hK)
theorem G.call1 {j_ g_ : Nat} {e_ want_ : Bool} {x y : Operand} {f : FuncId} {ts : Array TypeId} {u r : T} [hf : FnIs P f] (hx : evt tm_ x = .t (.v (.func (.func f) #[] #[]))) (hy : (evt tm_ y).un.toT = some u) (hy_ : (evt tm_ y).okc (e_ = true)) (hr : e_ = true → E.Pure P f [u] (.one (.t r)))
    (hj_ : (ops[j_]?).bind (·.dst) = some g_) (hb_ : gval (evt tm_ (.tmp g_)) want_ = some e_) (hN : Nat.blt d N_ = true)
    (hK : TriL P ops l_ K ⟨(d, .cond e_ true (.t r)) :: tm_, N_, hp_, lo_, n_⟩) : TriL P ops (⟨some d, .call ⟨.value x, #[y], ts⟩, ty, pos, af, some (j_, want_)⟩ :: l_) K ⟨tm_, N_, hp_, lo_, n_⟩ :=
  .gvo rfl hj_ hb_ rfl hN (VO.call (s := ⟨tm_, N_, hp_, lo_, n_⟩) (xs := [y]) hx rfl (args1 ⟨rfl, hy_⟩ hy) hr) hK
theorem G.call2 {j_ g_ : Nat} {e_ want_ : Bool} {x y z : Operand} {f : FuncId} {ts : Array TypeId} {u v r : T} [hf : FnIs P f] (hx : evt tm_ x = .t (.v (.func (.func f) #[] #[]))) (hy : (evt tm_ y).un.toT = some u) (hy_ : (evt tm_ y).okc (e_ = true)) (hz : (evt tm_ z).un.toT = some v) (hz_ : (evt tm_ z).okc (e_ = true)) (hr : e_ = true → E.Pure P f [u, v] (.one (.t r)))
    (hj_ : (ops[j_]?).bind (·.dst) = some g_) (hb_ : gval (evt tm_ (.tmp g_)) want_ = some e_) (hN : Nat.blt d N_ = true)
    (hK : TriL P ops l_ K ⟨(d, .cond e_ true (.t r)) :: tm_, N_, hp_, lo_, n_⟩) : TriL P ops (⟨some d, .call ⟨.value x, #[y, z], ts⟩, ty, pos, af, some (j_, want_)⟩ :: l_) K ⟨tm_, N_, hp_, lo_, n_⟩ :=
  .gvo rfl hj_ hb_ rfl hN (VO.call (s := ⟨tm_, N_, hp_, lo_, n_⟩) (xs := [y, z]) hx rfl (args2 ⟨rfl, hy_⟩ hy ⟨rfl, hz_⟩ hz) hr) hK
/-- A store of one cell. -/
theorem U.store {t : TypeId} {x y : Operand} {ds : TypeDesc} {bytes : Nat} {z : Value} {b o : Nat} {ls : List PV} {p q : PV} [ht : TyIs P t ds 1 bytes z] (hx : evt tm_ x = .ptr b o) (hb : look b hp_ = some (.obj ls)) (hy : evt tm_ y = p)
    (hp : p.known = true) (hq : p.leaves = [q]) (hf : q.flat = true) (hr : Nat.blt o ls.length = true) (hK : TriL P ops l_ K ⟨tm_, N_, (b, .obj (ls.set o q)) :: hp_, lo_, n_⟩) : TriL P ops (⟨none, .store t x y, ty, pos, af, none⟩ :: l_) K ⟨tm_, N_, hp_, lo_, n_⟩ := by
  have hr' : o < ls.length := by simpa [Nat.blt_eq] using hr
  refine .cons rfl (.store hx hb hy hp hq rfl (by simp [allFlat, hf]) (Nat.ble_eq_true_of_le hr') (set_splice q ls o hr') hK)
/-- A store of a whole struct. -/
theorem U.storeS {t : TypeId} {x y : Operand} {ds : TypeDesc} {sz bytes : Nat} {z : Value} {b : Nat} {ls qs : List PV} {p : PV} [ht : TyIs P t ds sz bytes z] (hx : evt tm_ x = .ptr b 0) (hb : look b hp_ = some (.obj ls)) (hy : evt tm_ y = p)
    (hp : p.known = true) (hq : p.leaves = qs) (hn : qs.length = sz) (hf : allFlat qs = true) (hr : ls.length = sz) (hK : TriL P ops l_ K ⟨tm_, N_, (b, .obj qs) :: hp_, lo_, n_⟩) : TriL P ops (⟨none, .store t x y, ty, pos, af, none⟩ :: l_) K ⟨tm_, N_, hp_, lo_, n_⟩ := by
  refine .cons rfl (.store hx hb hy hp hq hn hf (by simp [Nat.ble_eq, hr]) ?_ hK)
  rw [hn, Nat.zero_add, List.drop_of_length_le (by omega)]; simp

end Go.Proofs.YtldelbknkkeniaaGreatDoor.E

/- The engine: regions whose order is free. -/
namespace Go.Proofs.YtldelbknkkeniaaGreatDoor.E
open Go Go.RowKit
set_option linter.unusedVariables false
set_option linter.unusedSimpArgs false
variable {P : Program}

def dirOf (ops : Array Oper) (j : Nat) : List Nat := match ops[j]? with
  | some o => (o.after.toList.filter (Region.binds .any)).map (·.on)
  | none => []
def ancAt (A : List (List Nat)) (j : Nat) : List Nat := A.getD j []
def mkAncGo (ops : Array Oper) : Nat → Nat → List (List Nat) → List (List Nat)
  | 0, _, acc => acc
  | k + 1, j, acc => mkAncGo ops k (j + 1) (acc ++ [((dirOf ops j) ++ (dirOf ops j).flatMap (ancAt acc)).eraseDups])
def mkAnc (ops : Array Oper) : List (List Nat) := mkAncGo ops ops.size 0 []
def cmpB (A : List (List Nat)) (i j : Nat) : Bool := (ancAt A i).contains j || (ancAt A j).contains i || i == j
def dstOf (ops : Array Oper) (j : Nat) : Option Nat := match ops[j]? with
  | some o => o.dst
  | none => none
def looksOf (ops : Array Oper) (o : Oper) : List Nat :=
  (o.op.operands.toList.filterMap fun | .tmp t => some t | _ => none) ++ (match o.guard with | some (j, _) => (match dstOf ops j with | some d => [d] | none => []) | none => [])
def freeB (A : List (List Nat)) (es : List Nat) (i : Nat) : Bool := es.any fun e => !cmpB A i e
def dOK (ops : Array Oper) (A : List (List Nat)) (es : List Nat) : Bool :=
  ((List.range ops.size).all fun j => (dirOf ops j).all (fun i => Nat.blt i j) && (ancAt A j).all fun i => Nat.blt i j && ((dirOf ops j).contains i || (dirOf ops j).any fun k => (ancAt A k).contains i)) &&
  ((List.range ops.size).all fun i => match ops[i]? with
    | some o => (looksOf ops o).all fun t => (List.range ops.size).all fun j => dstOf ops j != some t || cmpB A i j
    | none => true) &&
  ((List.range ops.size).all fun i => (List.range ops.size).all fun j => i == j || dstOf ops i == none || dstOf ops i != dstOf ops j) &&
  (es.all fun e => Nat.blt e ops.size && es.all fun e' => cmpB A e e')

/-- What is looked at. -/
def sel (ops : Array Oper) (o : Oper) (tm : List (Nat × PV)) : List (Nat × PV) := (looksOf ops o).map fun t => (t, (look t tm).getD .undef)
theorem look_sel {tm : List (Nat × PV)} : ∀ {l : List Nat} {t : Nat} {p : PV}, look t (l.map fun t => (t, (look t tm).getD .undef)) = some p → t ∈ l ∧ p = (look t tm).getD .undef
  | [], t, p, h => by cases h
  | u :: l, t, p, h => by
    simp only [List.map_cons, look] at h
    split at h
    · rename_i e; subst e; cases h; exact ⟨List.mem_cons_self, rfl⟩
    · exact ⟨List.mem_cons_of_mem _ (look_sel h).1, (look_sel h).2⟩
def pushT (o : Option Nat) (q : PV) (tm : List (Nat × PV)) : List (Nat × PV) := match o with
  | some d => (d, q) :: tm
  | none => tm
/-- One operation: what it gives, and the blocks behind it. -/
def OneOp (P : Program) (ops : Array Oper) (o : Oper) (tm : List (Nat × PV)) (N : Nat) (hp : List (Nat × Blk)) (n : Nat) (q : PV) (hp' : List (Nat × Blk)) (n' : Nat) : Prop :=
  TriL P ops [o] (fun s' => (∀ d, o.dst = some d → look d s'.tm = some q) ∧ s'.heap = hp' ∧ s'.n = n') ⟨sel ops o tm, N, hp, n, n⟩
/-- Blocks that stay. -/
def Keep (base hp : List (Nat × Blk)) : Prop := ∀ b k, look b base = some k → look b hp = some k
/-- Behind this effect something of free order may still be to do. -/
def needB (ops : Array Oper) (A : List (List Nat)) (es : List Nat) (i : Nat) : Bool := (List.range ops.size).any fun j => freeB A es j && !(ancAt A i).contains j
/-- What is to be shown of the operations, in the text's order. -/
def DOb (P : Program) (ops : Array Oper) (A : List (List Nat)) (es : List Nat) (N lo : Nat) (K : St → Prop) (base : List (Nat × Blk)) : Nat → List Oper → List (Nat × PV) → List (Nat × Blk) → Nat → Prop
  | i, [], tm, hp, n => K ⟨tm, N, hp, lo, n⟩
  | i, o :: l, tm, hp, n => ∃ q hp' n', (es.contains i = false → hp' = hp ∧ n' = n) ∧ (es.contains i = true → needB ops A es i = true → Keep base hp') ∧ (if freeB A es i = true then ∀ hp n, Keep base hp → OneOp P ops o tm N hp n q hp n else OneOp P ops o tm N hp n q hp' n') ∧ DOb P ops A es N lo K base (i + 1) l (pushT o.dst q tm) hp' n'

section
variable {ops : Array Oper} {A : List (List Nat)} {es : List Nat} {N lo : Nat} {K : St → Prop} {i : Nat} {o : Oper} {l : List Oper} {tm : List (Nat × PV)} {base hp : List (Nat × Blk)} {n : Nat}
theorem D.nil (h : K ⟨tm, N, hp, lo, n⟩) : DOb P ops A es N lo K base i [] tm hp n := h
/-- A value; nothing else. -/
theorem D.v {d : Nat} {q : PV} (hd : o.dst = some d) (he : es.contains i = false) (hk : freeB A es i = false) (h : TriL P ops [o] (fun s' => s'.tm = (d, q) :: sel ops o tm ∧ s'.heap = hp ∧ s'.n = n) ⟨sel ops o tm, N, hp, n, n⟩)
    (hK : DOb P ops A es N lo K base (i + 1) l ((d, q) :: tm) hp n) : DOb P ops A es N lo K base i (o :: l) tm hp n := by
  refine ⟨q, hp, n, fun _ => ⟨rfl, rfl⟩, fun h1 => (by have := he; simp_all), ?_, by rw [hd]; exact hK⟩
  rw [if_neg (by simp [hk])]
  exact h.mono fun s' _ _ ⟨h1, h2, h3⟩ => ⟨fun d' e => by rw [hd] at e; cases e; rw [h1]; simp [look], h2, h3⟩
/-- A value, whatever is done meanwhile. -/
theorem D.f {d : Nat} {q : PV} (hd : o.dst = some d) (he : es.contains i = false) (hk : freeB A es i = true) (h : ∀ hp n, TriL P ops [o] (fun s' => s'.tm = (d, q) :: sel ops o tm ∧ s'.heap = hp ∧ s'.n = n) ⟨sel ops o tm, N, hp, n, n⟩)
    (hK : DOb P ops A es N lo K base (i + 1) l ((d, q) :: tm) hp n) : DOb P ops A es N lo K base i (o :: l) tm hp n := by
  refine ⟨q, hp, n, fun _ => ⟨rfl, rfl⟩, fun h1 => (by have := he; simp_all), ?_, by rw [hd]; exact hK⟩
  rw [if_pos hk]
  exact fun hp n _ => (h hp n).mono fun s' _ _ ⟨h1, h2, h3⟩ => ⟨fun d' e => by rw [hd] at e; cases e; rw [h1]; simp [look], h2, h3⟩
/-- A value out of blocks that stay, whatever is done meanwhile. -/
theorem D.fb {d : Nat} {q : PV} (hd : o.dst = some d) (he : es.contains i = false) (hk : freeB A es i = true) (h : ∀ hp n, Keep base hp → TriL P ops [o] (fun s' => s'.tm = (d, q) :: sel ops o tm ∧ s'.heap = hp ∧ s'.n = n) ⟨sel ops o tm, N, hp, n, n⟩)
    (hK : DOb P ops A es N lo K base (i + 1) l ((d, q) :: tm) hp n) : DOb P ops A es N lo K base i (o :: l) tm hp n := by
  refine ⟨q, hp, n, fun _ => ⟨rfl, rfl⟩, fun h1 => (by have := he; simp_all), ?_, by rw [hd]; exact hK⟩
  rw [if_pos hk]
  exact fun hp n hb => (h hp n hb).mono fun s' _ _ ⟨h1, h2, h3⟩ => ⟨fun d' e => by rw [hd] at e; cases e; rw [h1]; simp [look], h2, h3⟩
/-- One that makes or writes a block, and gives a value. -/
theorem D.e {d : Nat} {q : PV} {hp' : List (Nat × Blk)} {n' : Nat} (hd : o.dst = some d) (he : es.contains i = true) (hk : freeB A es i = false) (hb : needB ops A es i = true → Keep base hp') (h : TriL P ops [o] (fun s' => s'.tm = (d, q) :: sel ops o tm ∧ s'.heap = hp' ∧ s'.n = n') ⟨sel ops o tm, N, hp, n, n⟩)
    (hK : DOb P ops A es N lo K base (i + 1) l ((d, q) :: tm) hp' n') : DOb P ops A es N lo K base i (o :: l) tm hp n := by
  refine ⟨q, hp', n', fun e => by simp_all, fun _ => hb, ?_, by rw [hd]; exact hK⟩
  rw [if_neg (by simp [hk])]
  exact h.mono fun s' _ _ ⟨h1, h2, h3⟩ => ⟨fun d' e => by rw [hd] at e; cases e; rw [h1]; simp [look], h2, h3⟩
/-- One that writes a block, and gives none. -/
theorem D.s {hp' : List (Nat × Blk)} {n' : Nat} (hd : o.dst = none) (he : es.contains i = true) (hk : freeB A es i = false) (hb : needB ops A es i = true → Keep base hp') (h : TriL P ops [o] (fun s' => s'.heap = hp' ∧ s'.n = n') ⟨sel ops o tm, N, hp, n, n⟩)
    (hK : DOb P ops A es N lo K base (i + 1) l tm hp' n') : DOb P ops A es N lo K base i (o :: l) tm hp n := by
  refine ⟨.undef, hp', n', fun e => by simp_all, fun _ => hb, ?_, by rw [hd]; exact hK⟩
  rw [if_neg (by simp [hk])]
  exact h.mono fun s' _ _ ⟨h2, h3⟩ => ⟨fun d' e => (by rw [hd] at e; cases e), h2, h3⟩
end

/-- The obligations, by their place. -/
def tmAt (ops : Array Oper) (q : Nat → PV) (tm : List (Nat × PV)) : Nat → List (Nat × PV)
  | 0 => tm
  | i + 1 => pushT (dstOf ops i) (q i) (tmAt ops q tm i)
structure Obs (P : Program) (ops : Array Oper) (A : List (List Nat)) (es : List Nat) (N : Nat) (base : List (Nat × Blk)) (tm : List (Nat × PV)) (q : Nat → PV) (hp : Nat → List (Nat × Blk)) (nn : Nat → Nat) : Prop where
  keep : ∀ i, es.contains i = false → hp (i + 1) = hp i ∧ nn (i + 1) = nn i
  keepb : ∀ i < ops.size, es.contains i = true → needB ops A es i = true → Keep base (hp (i + 1))
  ob : ∀ i o, ops[i]? = some o → if freeB A es i = true then ∀ hp n, Keep base hp → OneOp P ops o (tmAt ops q tm i) N hp n (q i) hp n else OneOp P ops o (tmAt ops q tm i) N (hp i) (nn i) (q i) (hp (i + 1)) (nn (i + 1))
theorem DOb.obs {ops : Array Oper} {A : List (List Nat)} {es : List Nat} {N lo : Nat} {K : St → Prop} {base : List (Nat × Blk)} {tm0 : List (Nat × PV)} : ∀ (l : List Oper) (i : Nat) (q : Nat → PV) (hp : Nat → List (Nat × Blk)) (nn : Nat → Nat),
    (∀ j, l[j]? = ops[i + j]?) → i + l.length = ops.size →
    (∀ k < i, es.contains k = false → hp (k + 1) = hp k ∧ nn (k + 1) = nn k) →
    (∀ k < i, es.contains k = true → needB ops A es k = true → Keep base (hp (k + 1))) →
    (∀ k < i, ∀ o, ops[k]? = some o → if freeB A es k = true then ∀ hp n, Keep base hp → OneOp P ops o (tmAt ops q tm0 k) N hp n (q k) hp n else OneOp P ops o (tmAt ops q tm0 k) N (hp k) (nn k) (q k) (hp (k + 1)) (nn (k + 1))) →
    DOb P ops A es N lo K base i l (tmAt ops q tm0 i) (hp i) (nn i) →
    ∃ q' hp' nn', Obs P ops A es N base tm0 q' hp' nn' ∧ hp' 0 = hp 0 ∧ nn' 0 = nn 0 ∧ K ⟨tmAt ops q' tm0 ops.size, N, hp' ops.size, lo, nn' ops.size⟩ := by
  have tmAt_ext : ∀ (q q' : Nat → PV) (i : Nat), (∀ k < i, q k = q' k) → tmAt ops q tm0 i = tmAt ops q' tm0 i := by
    intro q q' i
    induction i with
    | zero => intro _; rfl
    | succ i ih => intro h; simp only [tmAt]; rw [ih (fun k hk => h k (by omega)), h i (by omega)]
  intro l
  induction l with
  | nil =>
    intro i q hp nn hl hs hkeep hkb hob h
    simp at hs
    subst hs
    refine ⟨q, fun k => hp (min k ops.size), fun k => nn (min k ops.size), ⟨fun k hk => ?_, fun k hk hc hn => (?_ : Keep base _), fun k o ho => ?_⟩, by simp, by simp, by have h' : K _ := h; simpa using h'⟩
    · rcases Nat.lt_or_ge k ops.size with e | e
      · simp only [Nat.min_eq_left (Nat.succ_le_of_lt e), Nat.min_eq_left (Nat.le_of_lt e)]; exact hkeep k e hk
      · simp [Nat.min_eq_right e, Nat.min_eq_right (Nat.le_succ_of_le e)]
    · simp only [Nat.min_eq_left (Nat.succ_le_of_lt hk)]; exact hkb k hk hc hn
    · have e : k < ops.size := by
        rcases Nat.lt_or_ge k ops.size with e | e
        · exact e
        · rw [Array.getElem?_eq_none e] at ho; cases ho
      simp only [Nat.min_eq_left (Nat.succ_le_of_lt e), Nat.min_eq_left (Nat.le_of_lt e)]
      exact hob k e o ho
  | cons o l ih =>
    intro i q hp nn hl hs hkeep hkb hob h
    obtain ⟨q1, hp1, n1, h1, h1b, h2, h3⟩ := h
    have ho : ops[i]? = some o := by have := hl 0; simpa using this.symm
    have hd : dstOf ops i = o.dst := by simp [dstOf, ho]
    let q' : Nat → PV := fun k => if k = i then q1 else q k
    let hp' : Nat → List (Nat × Blk) := fun k => if k = i + 1 then hp1 else hp k
    let nn' : Nat → Nat := fun k => if k = i + 1 then n1 else nn k
    have eq' : ∀ k ≤ i, tmAt ops q' tm0 k = tmAt ops q tm0 k := fun k hk => tmAt_ext _ _ _ (fun j hj => by simp only [q']; rw [if_neg (by omega)])
    have ehp : ∀ k ≤ i, hp' k = hp k := fun k hk => by simp only [hp']; rw [if_neg (by omega)]
    have enn : ∀ k ≤ i, nn' k = nn k := fun k hk => by simp only [nn']; rw [if_neg (by omega)]
    have := ih (i + 1) q' hp' nn' (fun j => by have := hl (j + 1); rw [List.getElem?_cons_succ] at this; rw [this]; congr 1; omega) (by simp at hs; omega) ?_ ?_ ?_ ?_
    · obtain ⟨a, b, c, x1, x2, x3, x4⟩ := this
      exact ⟨a, b, c, x1, x2.trans (ehp 0 (by omega)), x3.trans (enn 0 (by omega)), x4⟩
    · intro k hk hc
      rcases Nat.lt_or_ge k i with e | e
      · rw [ehp _ (by omega), ehp _ (by omega), enn _ (by omega), enn _ (by omega)]; exact hkeep k e hc
      · obtain rfl : k = i := by omega
        rw [ehp _ (Nat.le_refl _), enn _ (Nat.le_refl _)]
        simp only [hp', nn', if_true]
        exact h1 hc
    · intro k hk hc hn
      rcases Nat.lt_or_ge k i with e | e
      · rw [ehp _ (by omega)]; exact hkb k e hc hn
      · obtain rfl : k = i := by omega
        simp only [hp', if_true]
        exact h1b hc hn
    · intro k hk o' ho'
      rw [eq' k (by omega), ehp k (by omega), enn k (by omega)]
      rcases Nat.lt_or_ge k i with e | e
      · rw [ehp _ (by omega), enn _ (by omega)]
        simp only [q', if_neg (show k ≠ i by omega)]
        exact hob k e o' ho'
      · obtain rfl : k = i := by omega
        rw [ho] at ho'; cases ho'
        simp only [q', hp', nn', if_true]
        exact h2
    · simp only [tmAt]
      rw [eq' i (Nat.le_refl _), hd]
      simp only [q', hp', nn', if_true]
      exact h3

/-! ### what a check says -/
theorem mem_of_contains {l : List Nat} {i : Nat} (h : l.contains i = true) : i ∈ l := by simpa using h
structure DOKP (ops : Array Oper) (A : List (List Nat)) (es : List Nat) : Prop where
  dirlt : ∀ j < ops.size, ∀ i ∈ dirOf ops j, i < j
  anclt : ∀ j < ops.size, ∀ i ∈ ancAt A j, i < j
  anc : ∀ j < ops.size, ∀ i ∈ ancAt A j, i ∈ dirOf ops j ∨ ∃ k ∈ dirOf ops j, i ∈ ancAt A k
  vis : ∀ i < ops.size, ∀ o, ops[i]? = some o → ∀ t ∈ looksOf ops o, ∀ j < ops.size, dstOf ops j = some t → j ∈ ancAt A i ∨ i ∈ ancAt A j ∨ i = j
  apart : ∀ i < ops.size, ∀ j < ops.size, i ≠ j → ∀ d, dstOf ops i = some d → dstOf ops j ≠ some d
  eff : ∀ e ∈ es, e < ops.size ∧ ∀ e' ∈ es, e' ∈ ancAt A e ∨ e ∈ ancAt A e' ∨ e = e'
theorem cmpB_spec {A : List (List Nat)} {i j : Nat} (h : cmpB A i j = true) : j ∈ ancAt A i ∨ i ∈ ancAt A j ∨ i = j := by
  simp only [cmpB, Bool.or_eq_true, beq_iff_eq, List.contains_iff_mem] at h
  rcases h with (h | h) | h
  · exact .inl h
  · exact .inr (.inl h)
  · exact .inr (.inr h)
theorem dOK_spec {ops : Array Oper} {A : List (List Nat)} {es : List Nat} (h : dOK ops A es = true) : DOKP ops A es := by
  simp only [dOK, Bool.and_eq_true, List.all_eq_true, List.mem_range, Nat.blt_eq, Bool.or_eq_true, List.any_eq_true, List.contains_iff_mem] at h
  obtain ⟨⟨⟨h1, h2⟩, h3⟩, h4⟩ := h
  refine ⟨fun j hj => (h1 j hj).1, fun j hj i hi => ((h1 j hj).2 i hi).1, fun j hj i hi => ((h1 j hj).2 i hi).2, fun i hi o ho t ht j hj hd => ?_, fun i hi j hj hne d hd => ?_, fun e he => ⟨(h4 e he).1, fun e' he' => cmpB_spec ((h4 e he).2 e' he')⟩⟩
  · have := h2 i hi
    rw [ho] at this
    simp only [List.all_eq_true, List.mem_range, Bool.or_eq_true] at this
    rcases this t ht j hj with h | h
    · rw [hd] at h; simp at h
    · exact cmpB_spec h
  · rcases h3 i hi j hj with (h | h) | h
    · simp at h; exact absurd h hne
    · simp at h; rw [h] at hd; cases hd
    · intro e
      rw [hd, e] at h
      simp at h

/-! ### one operation, out of its place -/
theorem wpOp_of_one {ops : Array Oper} {o : Oper} {i : Nat} {Q Q2 : Exit → Act → World → Prop} {K : Act → World → Prop} {a : Act} {w : World} (hi : ops[i]? = some o) (h : wpList P ops Q2 [o] a w)
    (hK : ∀ a' v w', a'.tmps = (a.put o.dst v).tmps → Q2 .normal a' w' → K a' w') (hQ : ∀ e a w, e ≠ .normal → Q2 e a w → Q e a w) : wpOp P ops Q i K a w := by
  simp only [wpList] at h
  simp only [wpOp, hi]
  split
  · rename_i hw
    rw [if_pos hw] at h
    refine h.imp ?_ ?_
    · intro h
      unfold Oper.wp at *
      generalize (execOp a.eval o).run P w = r at *
      cases r with
      | ok n w' =>
        cases n with
        | value v => exact hK _ v _ rfl h
        | skip => exact hK _ undef _ rfl h
        | defer d => exact hK _ undef _ (by cases o.dst <;> rfl) h
        | enter f args => exact Calls.mono h (fun e w'' he => by cases e with
            | returned v => exact hK _ v _ rfl he
            | panicked c => exact hQ _ _ _ (by simp) he
            | outgrown => obtain ⟨a, w, he⟩ := he; exact ⟨a, w, hQ _ _ _ (by simp) he⟩)
        | row => exact Rows.mono h (fun v _ he => hK _ v _ rfl he)
        | _ => exact h
      | halt x w' =>
        cases x with
        | panic v => exact hQ _ _ _ (by simp) h
        | _ => exact h
    · rintro ⟨h1, a, w, h2⟩
      exact ⟨h1, a, w, hQ _ _ _ (by simp) h2⟩
  · rename_i hw
    rw [if_neg hw] at h
    exact hK _ undef _ rfl h

theorem put_other {a : Act} {v : Value} {od : Option Nat} {t : Nat} (h : od ≠ some t) : (a.put od v).tmps.getD t undef = a.tmps.getD t undef := by
  cases od with
  | none => rfl
  | some d =>
    have : d ≠ t := fun e => h (by rw [e])
    simp only [Act.put]
    rw [Array.getD_eq_getD_getElem?, Array.getElem?_setIfInBounds_ne (by omega), ← Array.getD_eq_getD_getElem?]
theorem look_tmAt {ops : Array Oper} {q : Nat → PV} {tm : List (Nat × PV)} : ∀ {i t : Nat} {p : PV}, look t (tmAt ops q tm i) = some p → (∃ j < i, dstOf ops j = some t ∧ p = q j) ∨ ((∀ j < i, dstOf ops j ≠ some t) ∧ look t tm = some p)
  | 0, t, p, h => .inr ⟨fun j hj => absurd hj (by omega), h⟩
  | i + 1, t, p, h => by
    have rec_ : look t (tmAt ops q tm i) = some p → dstOf ops i ≠ some t → (∃ j < i + 1, dstOf ops j = some t ∧ p = q j) ∨ ((∀ j < i + 1, dstOf ops j ≠ some t) ∧ look t tm = some p) := by
      intro h hne
      rcases look_tmAt h with ⟨j, h1, h2⟩ | ⟨h1, h2⟩
      · exact .inl ⟨j, by omega, h2⟩
      · refine .inr ⟨fun j hj => ?_, h2⟩
        rcases Nat.lt_or_ge j i with e | e
        · exact h1 j e
        · obtain rfl : j = i := by omega
          exact hne
    simp only [tmAt] at h
    cases hd : dstOf ops i with
    | none => rw [hd] at h; exact rec_ h (by simp [hd])
    | some d =>
      rw [hd] at h
      simp only [pushT, look] at h
      split at h
      · rename_i e; subst e; cases h; exact .inl ⟨i, by omega, hd, rfl⟩
      · rename_i e; exact rec_ h (by rw [hd]; simp; exact fun k => e k.symm)
theorem Obs.const {ops : Array Oper} {A : List (List Nat)} {es : List Nat} {N : Nat} {base : List (Nat × Blk)} {tm : List (Nat × PV)} {q : Nat → PV} {hp : Nat → List (Nat × Blk)} {nn : Nat → Nat} (h : Obs P ops A es N base tm q hp nn) {k : Nat} :
    ∀ (d : Nat), (∀ e ∈ es, e < k + d → e < k) → hp (k + d) = hp k ∧ nn (k + d) = nn k
  | 0, _ => ⟨rfl, rfl⟩
  | d + 1, he => by
    obtain ⟨h1, h2⟩ := Obs.const h d (fun e h1 h2 => he e h1 (by omega))
    have hc : es.contains (k + d) = false := by
      cases hc : es.contains (k + d) with
      | false => rfl
      | true => exact absurd (he _ (mem_of_contains hc) (by omega)) (by omega)
    obtain ⟨h3, h4⟩ := h.keep (k + d) hc
    exact ⟨h3.trans h1, h4.trans h2⟩
theorem Obs.const2 {ops : Array Oper} {A : List (List Nat)} {es : List Nat} {N : Nat} {base : List (Nat × Blk)} {tm : List (Nat × PV)} {q : Nat → PV} {hp : Nat → List (Nat × Blk)} {nn : Nat → Nat} (h : Obs P ops A es N base tm q hp nn) {k m : Nat}
    (he : ∀ e ∈ es, e < k ↔ e < m) : hp m = hp k ∧ nn m = nn k := by
  rcases Nat.le_total k m with hle | hle
  · obtain ⟨d, rfl⟩ := Nat.exists_eq_add_of_le hle
    exact h.const d fun e h1 h2 => (he e h1).2 h2
  · obtain ⟨d, rfl⟩ := Nat.exists_eq_add_of_le hle
    obtain ⟨h1, h2⟩ := h.const (k := m) d fun e h1 h2 => (he e h1).1 h2
    exact ⟨h1.symm, h2.symm⟩

/-- What stays, stays wherever something of free order is still to do. -/
theorem Obs.base {ops : Array Oper} {A : List (List Nat)} {es : List Nat} {N : Nat} {base : List (Nat × Blk)} {tm : List (Nat × PV)} {q : Nat → PV} {hp : Nat → List (Nat × Blk)} {nn : Nat → Nat} (h : Obs P ops A es N base tm q hp nn)
    (h0 : Keep base (hp 0)) {i : Nat} (hi : i < ops.size) (hf : freeB A es i = true) : ∀ k, (∀ e ∈ es, e < k → e < ops.size ∧ i ∉ ancAt A e) → Keep base (hp k)
  | 0, _ => h0
  | k + 1, hk => by
    by_cases hc : es.contains k = true
    · obtain ⟨h1, h2⟩ := hk k (mem_of_contains hc) (by omega)
      refine h.keepb k h1 hc ?_
      simp only [needB, List.any_eq_true, List.mem_range, Bool.and_eq_true, Bool.not_eq_true']
      exact ⟨i, hi, hf, by simpa using h2⟩
    · rw [(h.keep k (by simpa using hc)).1]
      exact Obs.base h h0 hi hf k fun e he hlt => hk e he (by omega)
structure DInv (ops : Array Oper) (A : List (List Nat)) (es : List Nat) (N lo : Nat) (tm0 : List (Nat × PV)) (q : Nat → PV) (hp : Nat → List (Nat × Blk)) (nn : Nat → Nat) (B0 : Fr) (w0 : World) (φ0 : Phi) (F0 : FMem) (L : Array Bool) (a : Act) (w : World) : Prop where
  sz : L.size = ops.size
  closed : ∀ j < ops.size, L.getD j true = true → ∀ i ∈ ancAt A j, L.getD i true = true
  st : ∃ k F φ, (∀ e ∈ es, (L.getD e true = true ↔ e < k)) ∧ Sim B0 w0 φ0 F0 ⟨[], N, hp k, lo, nn k⟩ F φ a w ∧ (∀ j < ops.size, L.getD j true = true → ∀ d, dstOf ops j = some d → VR F φ (q j) (a.tmps.getD d undef)) ∧
    (∀ t p, look t tm0 = some p → (∀ j < ops.size, dstOf ops j = some t → L.getD j true = false) → VR F φ p (a.tmps.getD t undef))

theorem getD_set {L : Array Bool} {i j : Nat} (hi : i < L.size) : (L.setIfInBounds i true).getD j true = if j = i then true else L.getD j true := by
  rw [Array.getD_eq_getD_getElem?, Array.getD_eq_getD_getElem?]
  by_cases e : j = i
  · subst e; rw [Array.getElem?_setIfInBounds_self_of_lt hi]; simp
  · rw [Array.getElem?_setIfInBounds_ne (by omega)]; simp [e]

theorem DInv.step {ops : Array Oper} {A : List (List Nat)} {es : List Nat} {N lo : Nat} {base : List (Nat × Blk)} {tm0 : List (Nat × PV)} {q : Nat → PV} {hp : Nat → List (Nat × Blk)} {nn : Nat → Nat} {B0 : Fr} {w0 : World} {φ0 : Phi} {F0 : FMem}
    (C : DOKP ops A es) (O : Obs P ops A es N base tm0 q hp nn) (hb0 : Keep base (hp 0)) {L : Array Bool} {a : Act} {w : World} (I : DInv ops A es N lo tm0 q hp nn B0 w0 φ0 F0 L a w) {i : Nat} (hi : i < ops.size) (hL : L.getD i true = false) (hdir : ∀ j ∈ dirOf ops i, L.getD j true = true)
    {Q : Exit → Act → World → Prop} {K : Act → World → Prop} (hK : ∀ a' w', DInv ops A es N lo tm0 q hp nn B0 w0 φ0 F0 (L.setIfInBounds i true) a' w' → K a' w') : wpOp P ops Q i K a w := by
  obtain ⟨hsz, hcl, k, F, φ, hk, hs, hv, hb⟩ := I
  obtain ⟨o, ho⟩ : ∃ o, ops[i]? = some o := ⟨ops[i], Array.getElem?_eq_getElem hi⟩
  have hdo : dstOf ops i = o.dst := by simp [dstOf, ho]
  have hanc : ∀ j ∈ ancAt A i, L.getD j true = true := by
    intro j hj
    rcases C.anc i hi j hj with h | ⟨m, h1, h2⟩
    · exact hdir j h
    · exact hcl m (Nat.lt_trans (C.dirlt i hi m h1) hi) (hdir m h1) j h2
  have hnot : ∀ j < ops.size, i ∈ ancAt A j ∨ i = j → L.getD j true = false := by
    rintro j hj (h | rfl)
    · cases e : L.getD j true with
      | false => rfl
      | true => have := hcl j hj e i h; rw [hL] at this; cases this
    · exact hL
  -- the state that is looked at
  have hsel : Sim B0 w0 φ F ⟨sel ops o (tmAt ops q tm0 i), N, hp k, nn k, nn k⟩ F φ a w := by
    refine { below := hs.below, base := hs.base, fok := hs.fok, fle := FMem.le_refl F, fnew := fun a h => absurd rfl h, phi0 := fun _ _ => rfl, lo := Nat.le_refl _, fresh := hs.fresh, size := hs.size, defers := hs.defers, tm := ?_, heap := hs.heap, inj := hs.inj }
    intro t p h
    obtain ⟨h1, rfl⟩ := look_sel h
    cases e : look t (tmAt ops q tm0 i) with
    | none => exact .undef _
    | some p =>
      rcases look_tmAt e with ⟨j, h2, h3, rfl⟩ | ⟨h2, h3⟩
      · rcases C.vis i hi o ho t h1 j (by omega) h3 with h | h | h
        · exact hv j (by omega) (hanc j h) t h3
        · exact absurd (C.anclt j (by omega) i h) (by omega)
        · omega
      · refine hb t p h3 (fun j hj hd => ?_)
        rcases C.vis i hi o ho t h1 j hj hd with h | h
        · exact absurd hd (h2 j (C.anclt i hi j h))
        · exact hnot j hj h
  -- what is known of it
  have hcmp : ∀ e ∈ es, (e ∈ ancAt A i ∨ i ∈ ancAt A e ∨ i = e) → (e < k ↔ e < i) := by
    intro e he h
    rw [← hk e he]
    rcases h with h | h | h
    · exact ⟨fun _ => C.anclt i hi e h, fun _ => hanc e h⟩
    · have h1 := hnot e (C.eff e he).1 (.inl h)
      have h2 := C.anclt e (C.eff e he).1 i h
      rw [h1]; constructor
      · intro h; cases h
      · intro h; omega
    · subst h; rw [hL]; constructor
      · intro h; cases h
      · intro h; omega
  have hob : ∃ k', (∀ e ∈ es, ((L.setIfInBounds i true).getD e true = true ↔ e < k')) ∧ OneOp P ops o (tmAt ops q tm0 i) N (hp k) (nn k) (q i) (hp k') (nn k') := by
    have h0 := O.ob i o ho
    by_cases hf : freeB A es i = true
    · rw [if_pos hf] at h0
      refine ⟨k, fun e he => ?_, h0 _ _ (O.base hb0 hi hf k fun e he hlt => ⟨(C.eff e he).1, fun hm => ?_⟩)⟩
      rotate_left
      · have := hnot e (C.eff e he).1 (.inl hm)
        rw [(hk e he).2 hlt] at this; cases this
      rw [getD_set (by omega)]
      by_cases e1 : e = i
      · subst e1
        exfalso
        simp only [freeB, List.any_eq_true, Bool.not_eq_true'] at hf
        obtain ⟨e2, h2, h3⟩ := hf
        have := (C.eff e he).2 e2 h2
        simp only [cmpB, Bool.or_eq_false_iff, beq_eq_false_iff_ne] at h3
        rcases this with h | h | h
        · have := h3.1.1; simp at this; exact this h
        · have := h3.1.2; simp at this; exact this h
        · exact h3.2 h
      · rw [if_neg e1]; exact hk e he
    · rw [if_neg hf] at h0
      have hall : ∀ e ∈ es, (e < k ↔ e < i) := by
        intro e he
        refine hcmp e he ?_
        have : cmpB A i e = true := by
          cases e2 : cmpB A i e with
          | true => rfl
          | false => exact absurd (by simp only [freeB, List.any_eq_true, Bool.not_eq_true']; exact ⟨e, he, e2⟩) hf
        exact cmpB_spec this
      obtain ⟨e1, e2⟩ := O.const2 hall
      rw [e1, e2] at h0
      by_cases hie : es.contains i = true
      · refine ⟨i + 1, fun e he => ?_, h0⟩
        rw [getD_set (by omega)]
        by_cases e3 : e = i
        · subst e3; simp
        · rw [if_neg e3, hk e he, hall e he]; omega
      · have hie' : es.contains i = false := by simpa using hie
        obtain ⟨e3, e4⟩ := O.keep i hie'
        rw [e3, e4, e1, e2] at h0
        refine ⟨k, fun e he => ?_, h0⟩
        rw [getD_set (by omega)]
        by_cases e5 : e = i
        · subst e5; exact absurd (by simpa using he) hie
        · rw [if_neg e5]; exact hk e he
  obtain ⟨k', hk', h1⟩ := hob
  have h2 := h1 B0 w0 φ F F φ a w hsel (fun e a' w' => (e = .normal ∧ ∃ s' F' φ', ((∀ d, o.dst = some d → look d s'.tm = some (q i)) ∧ s'.heap = hp k' ∧ s'.n = nn k') ∧ s'.lo = nn k ∧ s'.N = N ∧ Sim B0 w0 φ F s' F' φ' a' w') ∨ (e ≠ .normal ∧ Q e a' w'))
    (fun s' F' φ' a' w' e1 e2 e3 e4 => .inl ⟨rfl, s', F', φ', e1, e2, e3, e4⟩)
  refine wpOp_of_one ho h2 ?_ ?_
  · rintro a' v w' htm (⟨_, s', F', φ', ⟨hq, hh, hn⟩, hlo, hN, hs'⟩ | ⟨hne, _⟩)
    · apply hK
      have hφ : φ.le φ' := by
        intro b x hx
        have hlt : b < nn k := by
          rcases Nat.lt_or_ge b (nn k) with h | h
          · exact h
          · rw [hs.fresh b h] at hx; cases hx
        rw [hs'.phi0 b (by rw [hlo]; exact hlt)]; exact hx
      refine ⟨by simpa using hsz, fun j hj hLj m hm => ?_, k', F', φ', hk', ?_, fun j hj hLj d hd => ?_, fun t p hp_ hd => ?_⟩
      · rw [getD_set (by omega)] at hLj ⊢
        by_cases e : m = i
        · rw [if_pos e]
        · rw [if_neg e]
          by_cases e2 : j = i
          · subst e2; exact hanc m hm
          · rw [if_neg e2] at hLj; exact hcl j hj hLj m hm
      · refine { below := hs'.below, base := hs'.base, fok := hs'.fok, fle := FMem.le_trans hs.fle hs'.fle, fnew := fun x hx => ?_, phi0 := fun b hb => ?_, lo := ?_, fresh := fun b hb => hs'.fresh b (by rw [hn]; exact hb), size := hs'.size.trans hN, defers := hs'.defers, tm := fun _ _ h => (by cases h), heap := fun b kk hb => hs'.heap b kk (by rw [hh]; exact hb), inj := fun b b' k1 k2 B s1 s2 e1 e2 => hs'.inj b b' k1 k2 B s1 s2 (by rw [hh]; exact e1) (by rw [hh]; exact e2) }
        · by_cases e : F' x = F x
          · rw [e] at hx; exact hs.fnew x hx
          · exact hs'.fnew x e
        · have hb' : b < lo := hb
          have := hs.lo
          rw [hs'.phi0 b (by rw [hlo]; exact Nat.lt_of_lt_of_le hb' this)]; exact hs.phi0 b hb
        · have h1 := hs'.lo; rw [hlo, hn] at h1; exact Nat.le_trans hs.lo h1
      · by_cases e : j = i
        · subst e
          exact hs'.tm d (q j) (hq d (by rw [← hdo]; exact hd))
        · rw [getD_set (by omega), if_neg e] at hLj
          rw [htm, put_other (by rw [← hdo]; exact C.apart j hj i hi e d hd)]
          exact (hv j hj hLj d hd).mono (hs'.fle) hφ
      · have e1 : dstOf ops i ≠ some t := fun h => by have := hd i hi h; rw [getD_set (by omega), if_pos rfl] at this; cases this
        rw [htm, put_other (by rw [← hdo]; exact e1)]
        refine (hb t p hp_ (fun j hj h => ?_)).mono hs'.fle hφ
        have := hd j hj h
        rw [getD_set (by omega)] at this
        split at this
        · cases this
        · exact this
    · exact absurd rfl hne
  · rintro e a w he (⟨h, _⟩ | ⟨_, h⟩)
    · exact absurd h he
    · exact h

def missing (ops : Array Oper) (L : Array Bool) : Nat := (List.range ops.size).countP fun j => !L.getD j true
theorem countP_lt {p p' : Nat → Bool} : ∀ (l : List Nat) (i : Nat), i ∈ l → p i = true → p' i = false → (∀ j, p' j = true → p j = true) → l.countP p' < l.countP p
  | x :: l, i, hm, h1, h2, h3 => by
    have hle : l.countP p' ≤ l.countP p := List.countP_mono_left (fun j _ => h3 j)
    rw [List.countP_cons, List.countP_cons]
    rcases List.mem_cons.1 hm with rfl | hm
    · rw [if_pos h1, if_neg (by simp [h2])]; omega
    · have := countP_lt l i hm h1 h2 h3
      by_cases e : p' x = true
      · rw [if_pos e, if_pos (h3 x e)]; omega
      · rw [if_neg e]; omega
theorem missing_set {ops : Array Oper} {L : Array Bool} (hs : L.size = ops.size) {i : Nat} (hi : i < ops.size) (h : L.getD i true = false) : missing ops (L.setIfInBounds i true) < missing ops L := by
  unfold missing
  refine countP_lt _ i (List.mem_range.2 hi) (by simp [h]) ?_ (fun j hj => ?_)
  · rw [getD_set (by omega)]; simp
  · rw [getD_set (by omega)] at hj
    split at hj
    · cases hj
    · exact hj
theorem mem_ready {ops : Array Oper} {L : Array Bool} (hs : L.size = ops.size) (hlt : ∀ j < ops.size, ∀ i ∈ dirOf ops j, i < j) {i : Nat} : i ∈ Region.ready .any ops L ↔ i < ops.size ∧ L.getD i true = false ∧ ∀ j ∈ dirOf ops i, L.getD j true = true := by
  have hdef : ∀ j, j < ops.size → L.getD j false = L.getD j true := by
    intro j hj
    rw [Array.getD_eq_getD_getElem?, Array.getD_eq_getD_getElem?, Array.getElem?_eq_getElem (by omega)]; rfl
  simp only [Region.ready, List.mem_filter, List.mem_range, Bool.and_eq_true, Bool.not_eq_true']
  refine and_congr_right fun hi => and_congr_right fun _ => ?_
  have hlt := hlt i hi
  rw [Array.getElem?_eq_getElem hi]
  simp only [dirOf, Array.getElem?_eq_getElem hi] at hlt ⊢
  simp only [Option.map_some, Option.getD_some, Array.all_eq_true_iff_forall_mem, List.mem_map, List.mem_filter, Array.mem_toList_iff] at hlt ⊢
  constructor
  · rintro h j ⟨e, ⟨h1, h2⟩, rfl⟩
    have := h e h1
    rw [h2] at this
    simp at this
    rw [← hdef _ (by have := hlt _ ⟨e, ⟨h1, h2⟩, rfl⟩; omega)]
    simpa using this
  · intro h e h1
    cases h2 : Region.binds .any e with
    | false => rfl
    | true =>
      have h3 := h _ ⟨e, ⟨h1, h2⟩, rfl⟩
      rw [← hdef _ (by have := hlt _ ⟨e, ⟨h1, h2⟩, rfl⟩; omega)] at h3
      simpa using h3
theorem DInv.all {ops : Array Oper} {A : List (List Nat)} {es : List Nat} {N lo : Nat} {base : List (Nat × Blk)} {tm0 : List (Nat × PV)} {q : Nat → PV} {hp : Nat → List (Nat × Blk)} {nn : Nat → Nat} {B0 : Fr} {w0 : World} {φ0 : Phi} {F0 : FMem}
    (C : DOKP ops A es) (O : Obs P ops A es N base tm0 q hp nn) (hb0 : Keep base (hp 0)) {Q : Exit → Act → World → Prop} (hQ : ∀ F φ a w, Sim B0 w0 φ0 F0 ⟨tmAt ops q tm0 ops.size, N, hp ops.size, lo, nn ops.size⟩ F φ a w → Q .normal a w) :
    ∀ (fuel : Nat) (L : Array Bool) (a : Act) (w : World), DInv ops A es N lo tm0 q hp nn B0 w0 φ0 F0 L a w → missing ops L ≤ fuel → wpAny P .any ops Q fuel L a w := by
  have fin : ∀ (L : Array Bool) (a : Act) (w : World), DInv ops A es N lo tm0 q hp nn B0 w0 φ0 F0 L a w → Region.ready .any ops L = [] → Q .normal a w := by
    intro L a w I hr
    have all : ∀ j, j < ops.size → L.getD j true = true := by
      intro j
      induction j using Nat.strongRecOn with
      | _ j ih =>
        intro hj
        cases e : L.getD j true with
        | true => rfl
        | false =>
          have : j ∈ Region.ready .any ops L := (mem_ready I.sz C.dirlt).2 ⟨hj, e, fun i hi => ih i (C.dirlt j hj i hi) (by have := C.dirlt j hj i hi; omega)⟩
          rw [hr] at this; cases this
    obtain ⟨hsz, hcl, k, F, φ, hk, hs, hv, hb⟩ := I
    obtain ⟨e1, e2⟩ := O.const2 (k := k) (m := ops.size) (fun e he => by rw [← hk e he]; exact ⟨fun _ => (C.eff e he).1, fun h => all e h⟩)
    refine hQ F φ a w { hs with fresh := by rw [e2]; exact hs.fresh, lo := by rw [e2]; exact hs.lo, tm := fun t p h => ?_, heap := by rw [e1]; exact hs.heap, inj := by rw [e1]; exact hs.inj }
    rcases look_tmAt h with ⟨j, h1, h2, rfl⟩ | ⟨h1, h2⟩
    · exact hv j h1 (all j h1) t h2
    · exact hb t p h2 (fun j hj hd => absurd hd (h1 j hj))
  intro fuel
  induction fuel with
  | zero =>
    intro L a w I hm
    have hr : Region.ready .any ops L = [] := by
      cases hr : Region.ready .any ops L with
      | nil => rfl
      | cons i l =>
        have : i ∈ Region.ready .any ops L := by rw [hr]; exact List.mem_cons_self
        obtain ⟨h1, h2, _⟩ := (mem_ready I.sz C.dirlt).1 this
        have := missing_set I.sz h1 h2
        omega
    exact ⟨hr, fin L a w I hr⟩
  | succ fuel ih =>
    intro L a w I hm
    refine ⟨fun hr => fin L a w I hr, fun i hi => ?_⟩
    obtain ⟨h1, h2, h3⟩ := (mem_ready I.sz C.dirlt).1 hi
    have := missing_set I.sz h1 h2
    exact I.step C O hb0 h1 h2 h3 (fun a' w' I' => ih _ a' w' I' (by omega))
/-- A region whose order is free. -/
theorem Tri.regDB (base : List (Nat × Blk)) (es : List Nat) {id : Nat} {ops : Array Oper} {Q : Ex → St → Prop} {tm : List (Nat × PV)} {N lo n : Nat} {hp : List (Nat × Blk)} (hm : P.follows .mixedOrders = true) (hA : dOK ops (mkAnc ops) es = true)
    (hb0 : Keep base hp) (h : DOb P ops (mkAnc ops) es N lo (Q .normal) base 0 ops.toList tm hp n) : Tri P (.region id ops true) Q ⟨tm, N, hp, lo, n⟩ := by
  intro B0 w0 φ0 F0 F φ a w hs
  have C := dOK_spec hA
  obtain ⟨q, hp', nn, O, h1, h2, hK⟩ := DOb.obs (tm0 := tm) ops.toList 0 (fun _ => .undef) (fun _ => hp) (fun _ => n) (fun j => by simp) (by simp) (fun k hk => absurd hk (by omega)) (fun k hk => absurd hk (by omega)) (fun k hk => absurd hk (by omega)) h
  refine wp_region_any hm ?_
  have hs' : Sim B0 w0 φ0 F0 ⟨tm, N, hp, lo, n⟩ F φ a w.drew := hs.drew
  have rep : ∀ j, j < ops.size → (Array.replicate ops.size false).getD j true = false := by
    intro j hj
    rw [Array.getD_eq_getD_getElem?, Array.getElem?_eq_getElem (by simpa using hj)]
    simp
  refine DInv.all C O (by rw [h1]; exact hb0) (fun F φ a w hs => ⟨.normal, _, F, φ, rfl, hK, rfl, rfl, hs⟩) ops.size _ a _ ⟨by simp, fun j hj hL => (by rw [rep j hj] at hL; cases hL), 0, F, φ, fun e he => ?_, ?_, fun j hj hL => (by rw [rep j hj] at hL; cases hL), fun t p ht _ => hs'.tm t p ht⟩ ?_
  · rw [rep e (C.eff e he).1]; constructor
    · intro h; cases h
    · intro h; omega
  · refine { hs' with tm := fun _ _ h => (by cases h), fresh := by rw [h2]; exact hs'.fresh, lo := by rw [h2]; exact hs'.lo, heap := by rw [h1]; exact hs'.heap, inj := by rw [h1]; exact hs'.inj }
  · unfold missing
    exact Nat.le_trans List.countP_le_length (by simp)
theorem Keep.nil {hp : List (Nat × Blk)} : Keep [] hp := fun _ _ h => by cases h
theorem Keep.of {base hp : List (Nat × Blk)} (h : subT base hp) : Keep base hp := subT_look h
theorem Tri.regD (es : List Nat) {id : Nat} {ops : Array Oper} {Q : Ex → St → Prop} {tm : List (Nat × PV)} {N lo n : Nat} {hp : List (Nat × Blk)} (hm : P.follows .mixedOrders = true) (hA : dOK ops (mkAnc ops) es = true)
    (h : DOb P ops (mkAnc ops) es N lo (Q .normal) [] 0 ops.toList tm hp n) : Tri P (.region id ops true) Q ⟨tm, N, hp, lo, n⟩ := Tri.regDB [] es hm hA .nil h
/-- On to one state. -/
def only (s2 : St) : Ex → St → Prop
  | .normal, s => Sub s2 s
  | _, _ => False
/-- Ways that part meet again: what is known behind a piece of code is said. -/
theorem Tri.mid (s2 : St) {x y : Code} {Q : Ex → St → Prop} {s : St} (h1 : Tri P x (only s2) s) (h2 : Tri P y Q s2) : Tri P (.seq x y) Q s := by
  refine Tri.seq (Tri.post (h1.mono fun e s' _ _ h => ?_))
  cases e with
  | normal => exact ⟨s2, h, h2⟩
  | ret => exact h.elim
  | exit => exact h.elim
end Go.Proofs.YtldelbknkkeniaaGreatDoor.E
