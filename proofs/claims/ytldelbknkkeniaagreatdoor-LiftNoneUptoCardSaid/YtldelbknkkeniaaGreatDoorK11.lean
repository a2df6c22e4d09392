/- What the rows of layer 13 share: how arguments are opened. -/
import Derived.Test.YtldelbknkkeniaaGreatDoorK8
import Derived.Test.YtldelbknkkeniaaGreatDoorK10
namespace Go.Proofs.YtldelbknkkeniaaGreatDoor
open Go Go.ChangeShapes Go.WideShapes Go.ChangeAt Go.RowKit E
set_option maxRecDepth 100000
set_option linter.unusedVariables false
set_option linter.unusedSimpArgs false
theorem open_sg {H : Type} {enc : TypeId × Value → H} {W : World} {b0 : Nat} {v : Value} {d : DataW H} {p : List MemPlace} (hv : Value.okWide Tryz.prog W .any b0 27 v) (h : DataW.Trod enc Tryz.prog W 0 (fun _ => true) true 27 v d p) :
    ∃ s, TR (memOf W) (encSg s) v ∧ (Rows.uptoBulk d ≤ big → smallSg s) := by
  obtain ⟨n, hn⟩ := h
  obtain ⟨s, h1, h2⟩ := rd_sg hn
  simp only [Value.okWide, Tryz.underlying27] at hv
  obtain ⟨cs, rfl, _, _⟩ := hv
  refine ⟨s, ?_, h2⟩
  rw [encSg_eta] at h1 ⊢
  exact tr_of_rd h1
end Go.Proofs.YtldelbknkkeniaaGreatDoor
