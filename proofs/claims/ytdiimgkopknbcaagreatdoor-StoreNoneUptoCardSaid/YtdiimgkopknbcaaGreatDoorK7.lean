/- What rows share: the listed tables' world; what a contract says of a call. -/
import Derived.Test.YtdiimgkopknbcaaGreatDoorK6
import Derived.Test.YtdiimgkopknbcaaGreatDoorCards
import Derived.Test.YtdiimgkopknbcaaGreatDoorTie
import Derived.WalkKit
import Derived.ProofKit
import Derived.OpenShut
import Derived.Carry
import Derived.Lay
import Derived.Deep.DeepHandedRow
namespace Go.Proofs.YtdiimgkopknbcaaGreatDoor
open Go Go.ChangeShapes Go.WideShapes Go.ChangeAt Go.RowKit E
set_option maxRecDepth 100000
set_option linter.unusedVariables false
set_option linter.unusedSimpArgs false
theorem own : ownKnob Tryz.prog.godebug = none := by kernel_rfl
theorem laidOut : laidOutB Tryz.prog = true := by kernel_rfl
theorem laid_plain {P : Program} {laid : List (String × DataW Unit)} {w : World} (h : (laid.filter fun x => x.2.handleName?.isSome) = []) : laidMetH P laid w = laidMet P laid w := by
  unfold laidMetH; rw [h]
/-- 'There is an input that fits', in a world whose shape is shown. -/
theorem witness_shape {H : Type} {enc : TypeId × Value → H} {C : Checked} {os : Os} {f : FuncId} {fn : Func} {s : OpenSpec} {conds : List PathCond} {apart : Bool} {laid : List (String × DataW Unit)} (modest : Bool) (w0 : World) (args : Array Value) (hos : w0.os = os)
    (hsh : (w0.forCall (fun _ _ => 0) ⟨#[], args, []⟩).Shaped C.prog) (hok : Input.okWideB C.prog (w0.forCall (fun _ _ => 0) ⟨#[], args, []⟩) f ⟨#[], args, []⟩ = true)
    (hrow : s.preRow enc C.prog fn conds apart laid (w0.forCall (fun _ _ => 0) ⟨#[], args, []⟩).memory args) :
    ∃ (w : World) (tape : Tape) (i : Input), w.os = os ∧ (w.forCall tape i).Shaped C.prog ∧ i.vars = [] ∧ Input.okWide C.prog (w.forCall tape i) .any w.heap.size f i ∧
      s.preRow enc C.prog fn conds apart laid (w.forCall tape i).memory i.args ∧ ({ modest := modest } : Assume).holds C.prog (lone (Frame.enter C.prog f i.args .normal) [] (w.forCall tape i)) :=
  let F : Stop.Interp := fun _ _ _ => 0
  ⟨w0, F.over fun _ _ => 0, ⟨#[], args, []⟩, hos, hsh, (Input.okWide_of_okWideB (base := 0) hok).1, (Input.okWide_of_okWideB hok).2, hrow, by
    simp only [Assume.holds]
    exact ⟨by simp, by simp, fun _ => F.over_modest Modest.zero, by simp, by simp⟩⟩
theorem tr_of_rd {F : FMem} {xs : List T} {cs : Array Value} (h : Rd F (.agg xs) cs.toList) : TR F (.agg xs) (.agg cs) := by
  refine .agg (by simpa [T.leaves] using h.len) (fun i x u hx hu => ?_)
  obtain ⟨v, h1, h2⟩ := h.get i x hx
  rw [Array.getElem?_toList] at h1
  rw [hu] at h1; cases h1; exact h2
/-- What a contract over trees says of a call. -/
theorem calls_true {f : FuncId} {xs : List T} (h : E.Pure Tryz.prog f xs (.one (.t (tBool true)))) {W : World} {args : Array Value} (ht : TabsW W) (hn : xs.length = args.size) (ha : ∀ (i : Nat) (x : T) (v : Value), xs[i]? = some x → args[i]? = some v → TR (memOf W) x v) :
    Calls Tryz.prog f args W fun e W' => e = .returned (.bool true) ∧ Below W.heap.size W W' := by
  refine (h (memOf W) args W (memOf_ok W ht) hn ha).mono ?_
  rintro e w' ⟨rv, F', rfl, _, _, _, hb, hr⟩
  cases hr with | one hr => cases hr with | t ht => cases ht with | v _ => exact ⟨rfl, hb⟩
end Go.Proofs.YtdiimgkopknbcaaGreatDoor
