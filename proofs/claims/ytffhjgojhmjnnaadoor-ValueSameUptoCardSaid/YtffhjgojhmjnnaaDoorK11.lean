/- How an argument that is a value is opened. -/
import Derived.Test.YtffhjgojhmjnnaaDoorK8
import Derived.Test.YtffhjgojhmjnnaaDoorK10
namespace Go.Proofs.YtffhjgojhmjnnaaDoor
open Go Go.ChangeShapes Go.WideShapes Go.ChangeAt Go.RowKit E
set_option maxRecDepth 100000
set_option linter.unusedVariables false
set_option linter.unusedSimpArgs false
theorem open_val {H : Type} {enc : TypeId × Value → H} {W : World} {b0 : Nat} {v : Value} {d : DataW H} {p : List MemPlace} (hv : Value.okWide Tryd.prog W .any b0 25 v) (h : DataW.Trod enc Tryd.prog W 0 (fun _ => true) true 25 v d p) :
    ∃ t, TR (memOf W) (encVal t) v ∧ (Rows.uptoBulk d ≤ big → smallV t) := by
  obtain ⟨n, hn⟩ := h
  obtain ⟨t, h1, h2⟩ := rd_val n _ d p hn
  simp only [Value.okWide, Tryd.underlying25] at hv
  obtain ⟨cs, rfl, _, _⟩ := hv
  refine ⟨t, ?_, h2⟩
  rw [encVal_eta] at h1 ⊢
  exact tr_of_rd h1
end Go.Proofs.YtffhjgojhmjnnaaDoor
