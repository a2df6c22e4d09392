/- What the rows of layer 13 share: how arguments are opened. -/
import Derived.Test.YtffhjgojhmjnnaaGreatDoorK8
import Derived.Test.YtffhjgojhmjnnaaGreatDoorK10
namespace Go.Proofs.YtffhjgojhmjnnaaGreatDoor
open Go Go.ChangeShapes Go.WideShapes Go.ChangeAt Go.RowKit E
set_option maxRecDepth 100000
set_option linter.unusedVariables false
set_option linter.unusedSimpArgs false
/-- An argument that is a component's type. -/
theorem open_ty {H : Type} {enc : TypeId × Value → H} {W : World} {b0 : Nat} {v : Value} {d : DataW H} {p : List MemPlace} (hv : Value.okWide Tryz.prog W .any b0 25 v) (h : DataW.Trod enc Tryz.prog W 0 (fun _ => true) true 25 v d p) :
    ∃ t, TR (memOf W) (encTy t) v ∧ (Rows.uptoBulk d ≤ big → small t) := by
  obtain ⟨n, hn⟩ := h
  obtain ⟨t, h1, h2⟩ := rd_ty n _ d p hn
  simp only [Value.okWide, Tryz.underlying25] at hv
  obtain ⟨cs, rfl, _, _⟩ := hv
  refine ⟨t, ?_, h2⟩
  rw [encTy_eta] at h1 ⊢
  exact tr_of_rd h1
theorem open_sg {H : Type} {enc : TypeId × Value → H} {W : World} {b0 : Nat} {v : Value} {d : DataW H} {p : List MemPlace} (hv : Value.okWide Tryz.prog W .any b0 43 v) (h : DataW.Trod enc Tryz.prog W 0 (fun _ => true) true 43 v d p) :
    ∃ s, TR (memOf W) (encSg s) v ∧ (Rows.uptoBulk d ≤ big → smallSg s) := by
  obtain ⟨n, hn⟩ := h
  obtain ⟨s, h1, h2⟩ := rd_sg hn
  simp only [Value.okWide, Tryz.underlying43] at hv
  obtain ⟨cs, rfl, _, _⟩ := hv
  refine ⟨s, ?_, h2⟩
  rw [encSg_eta] at h1 ⊢
  exact tr_of_rd h1
end Go.Proofs.YtffhjgojhmjnnaaGreatDoor
