/- Results that are three values; calls that give several values. -/
import Derived.Test.YtldelbknkkeniaaGreatDoorK19
namespace Go.Proofs.YtldelbknkkeniaaGreatDoor.E
open Go Go.RowKit
set_option linter.unusedVariables false
set_option linter.unusedSimpArgs false
section
variable {P : Program}
/-- Three values are the result. -/
def Comes3 (t u v : Tmp) (x y z : T) (e : Ex) (s : St) : Prop := (e = .normal ∨ e = .ret) ∧ Rets s [s.ev (.tmp t), s.ev (.tmp u), s.ev (.tmp v)] [.t x, .t y, .t z]
theorem Comes3.trees {t u v : Tmp} {x y z : T} {e : Ex} {s : St} (he : e = .normal ∨ e = .ret) (h1 : (s.ev (.tmp t)).toT = some x) (h2 : (s.ev (.tmp u)).toT = some y) (h3 : (s.ev (.tmp v)).toT = some z) : Comes3 t u v x y z e s := ⟨he, .tree h1 (.tree h2 (.tree h3 .nil))⟩
variable {d ty : Nat} {pos : String} {af : Array Edge} {K : St → Prop} {ops : Array Oper} {l_ : List Oper} {tm_ : List (Nat × PV)} {N_ lo_ n_ : Nat} {hp_ : List (Nat × Blk)} {x : Operand} {f : FuncId} {ts : Array TypeId}
theorem U.callP3 {y z q : Operand} {u v q' r1 r2 : T} [hf : FnIs P f] (hx : evt tm_ x = .t (.v (.func (.func f) #[] #[]))) (hy : (evt tm_ y).toT = some u) (hz : (evt tm_ z).toT = some v) (hq : (evt tm_ q).toT = some q') (hr : Pure P f [u, v, q'] (.tup [.t r1, .t r2])) (hN : Nat.blt d N_ = true)
    (hK : TriL P ops l_ K ⟨(d, .tup [.t r1, .t r2]) :: tm_, N_, hp_, lo_, n_⟩) : TriL P ops (⟨some d, .call ⟨.value x, #[y, z, q], ts⟩, ty, pos, af, none⟩ :: l_) K ⟨tm_, N_, hp_, lo_, n_⟩ :=
  .cons rfl (.call (xs := [y, z, q]) (s1 := ⟨tm_, N_, hp_, lo_, n_⟩) hx rfl (.tree hy (.tree hz (.tree hq .nil))) hr hN hK)
theorem args3 {H : Prop} {s : St} {x y z : Operand} {p q r : PV} {u v t : T} (h : EvH H s x p) (k : p.toT = some u) (h' : EvH H s y q) (k' : q.toT = some v) (h'' : EvH H s z r) (k'' : r.toT = some t) : ∀ (i : Nat) (o : Operand) (r : T), [x, y, z][i]? = some o → [u, v, t][i]? = some r → ∃ q, EvH H s o q ∧ q.toT = some r := by
  intro i o r h1 h2
  cases i with
  | zero => cases h1; cases h2; exact ⟨p, h, k⟩
  | succ i => exact args2 h' k' h'' k'' i o r (by simpa using h1) (by simpa using h2)
theorem G.call3 {j_ g_ : Nat} {e_ want_ : Bool} {x y z q : Operand} {f : FuncId} {ts : Array TypeId} {u v t r : T} [hf : FnIs P f] (hx : evt tm_ x = .t (.v (.func (.func f) #[] #[]))) (hy : (evt tm_ y).un.toT = some u) (hy_ : (evt tm_ y).okc (e_ = true)) (hz : (evt tm_ z).un.toT = some v) (hz_ : (evt tm_ z).okc (e_ = true)) (hq : (evt tm_ q).un.toT = some t) (hq_ : (evt tm_ q).okc (e_ = true)) (hr : e_ = true → E.Pure P f [u, v, t] (.one (.t r)))
    (hj_ : (ops[j_]?).bind (·.dst) = some g_) (hb_ : gval (evt tm_ (.tmp g_)) want_ = some e_) (hN : Nat.blt d N_ = true)
    (hK : TriL P ops l_ K ⟨(d, .cond e_ true (.t r)) :: tm_, N_, hp_, lo_, n_⟩) : TriL P ops (⟨some d, .call ⟨.value x, #[y, z, q], ts⟩, ty, pos, af, some (j_, want_)⟩ :: l_) K ⟨tm_, N_, hp_, lo_, n_⟩ :=
  .gvo rfl hj_ hb_ rfl hN (VO.call (s := ⟨tm_, N_, hp_, lo_, n_⟩) (xs := [y, z, q]) hx rfl (args3 ⟨rfl, hy_⟩ hy ⟨rfl, hz_⟩ hz ⟨rfl, hq_⟩ hq) hr) hK
end
end Go.Proofs.YtldelbknkkeniaaGreatDoor.E
