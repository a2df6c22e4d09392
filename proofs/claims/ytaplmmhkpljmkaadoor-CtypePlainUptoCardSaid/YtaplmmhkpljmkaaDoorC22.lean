/- Layer 13: the law CtypeChecks answers true. -/
import Derived.Test.YtaplmmhkpljmkaaDoorC20
import Derived.Test.YtaplmmhkpljmkaaDoorL4
namespace Go.Proofs.YtaplmmhkpljmkaaDoor
open Go E
set_option maxRecDepth 100000
set_option maxHeartbeats 4000000
set_option linter.unusedVariables false
set_option linter.unusedSimpArgs false
theorem E.G.call0 {P : Program} {d ty : Nat} {pos : String} {af : Array Edge} {K : St → Prop} {ops : Array Oper} {l_ : List Oper} {tm_ : List (Nat × PV)} {N_ lo_ n_ : Nat} {hp_ : List (Nat × Blk)} {j_ g_ : Nat} {e_ want_ : Bool} {x : Operand} {f : FuncId} {ts : Array TypeId} {r : T} [hf : FnIs P f] (hx : evt tm_ x = .t (.v (.func (.func f) #[] #[]))) (hr : e_ = true → E.Pure P f [] (.one (.t r)))
    (hj_ : (ops[j_]?).bind (·.dst) = some g_) (hb_ : gval (evt tm_ (.tmp g_)) want_ = some e_) (hN : Nat.blt d N_ = true)
    (hK : TriL P ops l_ K ⟨(d, .cond e_ true (.t r)) :: tm_, N_, hp_, lo_, n_⟩) : TriL P ops (⟨some d, .call ⟨.value x, #[], ts⟩, ty, pos, af, some (j_, want_)⟩ :: l_) K ⟨tm_, N_, hp_, lo_, n_⟩ :=
  .gvo rfl hj_ hb_ rfl hN (VO.call (s := ⟨tm_, N_, hp_, lo_, n_⟩) (xs := []) hx rfl (fun i y u h => by simp at h) hr) hK
attribute [local irreducible] Tri TriL TriO PO VO E.Pure DOb
theorem ctypeChecks_p (t : Ty) (s : Sg) (ht : small t) (hs : smallSg s) : E.Pure Tryd.prog 4 [encTy t, encSg s] (.one (.t (tBool true))) := by
  have h1 := check_p lexName_p t ht
  have h2 := may_p t ht
  have h3 := checkSig_p lexName_p s hs
  have h4 := maySig_p s hs
  have h5 := awake_p lexName_p
  refine Pure.of1 Tryd.func4 rfl rfl (Nat.le_of_ble_eq_true rfl) rfl ?_
  rw [encTy_eta] at *
  rw [encSg_eta] at *
  repeat' (first | refine Tri.seq ?_ | refine Tri.reg ?_ | refine TriL.nil ?_ | (apply U.assignT; rfl; trivial; rfl) | (apply U.boxA; rfl; rfl) | fail)
  refine Tri.regD [] mixed (by kernel_rfl) ?_
  repeat' (first | refine TriL.nil ?_ | exact ⟨rfl, rfl, rfl⟩ | (apply D.v; rfl; rfl; rfl) | refine D.nil ?_ | (apply U.moveT; rfl; trivial; rfl) | (apply U.bin; rfl; trivial; rfl; trivial; rfl; rfl) | (apply U.loadS; rfl; rfl; trivial; rfl; rfl; rfl; rfl; rfl) | (apply U.eqb; rfl; trivial; rfl; trivial; rfl) | (apply U.pickb; rfl; trivial; rfl; (first | trivial | exact id | exact And.right | exact gvA | exact gvB | exact And.left | exact gvN | exact gvP2 | exact gvN2 | exact gvLA); rfl; (first | trivial | exact id | exact And.right | exact gvA | exact gvB | exact And.left | exact gvN | exact gvP2 | exact gvN2 | exact gvLA); rfl) | (apply G.moveT; rfl; (first | trivial | exact id | exact And.right | exact gvA | exact gvB | exact And.left | exact gvN | exact gvP2 | exact gvN2 | exact gvLA); rfl; rfl; rfl) | (apply G.bin; rfl; (first | trivial | exact id | exact And.right | exact gvA | exact gvB | exact And.left | exact gvN | exact gvP2 | exact gvN2 | exact gvLA); rfl; (first | trivial | exact id | exact And.right | exact gvA | exact gvB | exact And.left | exact gvN | exact gvP2 | exact gvN2 | exact gvLA); rfl; rfl; rfl; rfl) | (apply G.loadS; rfl; rfl; (first | trivial | exact id | exact And.right | exact gvA | exact gvB | exact And.left | exact gvN | exact gvP2 | exact gvN2 | exact gvLA); rfl; rfl; rfl; rfl; rfl; rfl; rfl) | (apply G.eqb; rfl; (first | trivial | exact id | exact And.right | exact gvA | exact gvB | exact And.left | exact gvN | exact gvP2 | exact gvN2 | exact gvLA); rfl; (first | trivial | exact id | exact And.right | exact gvA | exact gvB | exact And.left | exact gvN | exact gvP2 | exact gvN2 | exact gvLA); rfl; rfl; rfl) | (apply G.pickb; rfl; (first | trivial | exact id | exact And.right | exact gvA | exact gvB | exact And.left | exact gvN | exact gvP2 | exact gvN2 | exact gvLA); rfl; (first | trivial | exact id | exact And.right | exact gvA | exact gvB | exact And.left | exact gvN | exact gvP2 | exact gvN2 | exact gvLA); rfl; (first | trivial | exact id | exact And.right | exact gvA | exact gvB | exact And.left | exact gvN | exact gvP2 | exact gvN2 | exact gvLA); rfl; rfl; rfl) | refine U.call1 rfl rfl (by assumption) rfl ?_ | refine G.call1 rfl rfl (by (first | trivial | exact id | exact And.right | exact gvA | exact gvB | exact And.left | exact gvN | exact gvP2 | exact gvN2 | exact gvLA)) (by first | assumption | exact fun _ => by assumption) rfl rfl rfl ?_ | refine Tri.ret ?_ | fail)
  · refine E.G.call0 rfl (fun _ => h5) rfl rfl rfl ?_
    repeat' (first | refine TriL.nil ?_ | exact ⟨rfl, rfl, rfl⟩ | fail)
  all_goals (repeat' (first | refine TriL.nil ?_ | exact ⟨rfl, rfl, rfl⟩ | (apply U.assignT; rfl; trivial; rfl) | (apply U.pickb; rfl; trivial; rfl; (first | trivial | exact id | exact And.right | exact gvA | exact gvB | exact And.left | exact gvN | exact gvP2 | exact gvN2 | exact gvLA); rfl; (first | trivial | exact id | exact And.right | exact gvA | exact gvB | exact And.left | exact gvN | exact gvP2 | exact gvN2 | exact gvLA); rfl) | fail))
  refine Comes1.ret rfl (retB ?_)
  cases h1 : mayB t <;> cases h2 : maySgB s <;> rfl
end Go.Proofs.YtaplmmhkpljmkaaDoor
