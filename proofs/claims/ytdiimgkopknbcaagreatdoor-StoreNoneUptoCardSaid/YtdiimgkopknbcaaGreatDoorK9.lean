/- What the rows of layer 13 share: how arguments are opened. -/
import Derived.Test.YtdiimgkopknbcaaGreatDoorK7
import Derived.Test.YtdiimgkopknbcaaGreatDoorK8
namespace Go.Proofs.YtdiimgkopknbcaaGreatDoor
open Go Go.ChangeShapes Go.WideShapes Go.ChangeAt Go.RowKit E
set_option maxRecDepth 100000
set_option linter.unusedVariables false
set_option linter.unusedSimpArgs false
/-- An argument that is a component's type. -/
theorem open_ty {H : Type} {enc : TypeId × Value → H} {W : World} {b0 : Nat} {v : Value} {d : DataW H} {p : List MemPlace} (hv : Value.okWide Tryz.prog W .any b0 25 v) (h : DataW.Trod enc Tryz.prog W 0 (fun _ => true) true 25 v d p) :
    ∃ t, TR (memOf W) (encTy t) v ∧ (Rows.uptoBulk d ≤ big → small t) := by
  obtain ⟨n, hn⟩ := h
  obtain ⟨t, h1, h2⟩ := rd_ty n _ d p hn
  simp only [Value.okWide, Tryz.underlying25] at hv
  obtain ⟨cs, rfl, _, _⟩ := hv
  refine ⟨t, ?_, h2⟩
  rw [encTy_eta] at h1 ⊢
  exact tr_of_rd h1
end Go.Proofs.YtdiimgkopknbcaaGreatDoor
