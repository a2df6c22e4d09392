/- How an argument that is a value is opened. -/
import Derived.Test.YtffhjgojhmjnnaaGreatDoorK8
import Derived.Test.YtffhjgojhmjnnaaGreatDoorK13
namespace Go.Proofs.YtffhjgojhmjnnaaGreatDoor
open Go Go.ChangeShapes Go.WideShapes Go.ChangeAt Go.RowKit E
set_option maxRecDepth 100000
set_option linter.unusedVariables false
set_option linter.unusedSimpArgs false
theorem open_val {H : Type} {enc : TypeId × Value → H} {W : World} {b0 : Nat} {v : Value} {d : DataW H} {p : List MemPlace} (hv : Value.okWide Tryz.prog W .any b0 29 v) (h : DataW.Trod enc Tryz.prog W 0 (fun _ => true) true 29 v d p) :
    ∃ t, TR (memOf W) (encVal t) v ∧ (Rows.uptoBulk d ≤ big → smallV t) := by
  obtain ⟨n, hn⟩ := h
  obtain ⟨t, h1, h2⟩ := rd_val n _ d p hn
  simp only [Value.okWide, Tryz.underlying29] at hv
  obtain ⟨cs, rfl, _, _⟩ := hv
  refine ⟨t, ?_, h2⟩
  rw [encVal_eta] at h1 ⊢
  exact tr_of_rd h1
end Go.Proofs.YtffhjgojhmjnnaaGreatDoor
