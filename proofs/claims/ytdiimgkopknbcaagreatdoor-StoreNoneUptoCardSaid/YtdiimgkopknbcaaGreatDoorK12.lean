/- How an argument that is a value is opened. -/
import Derived.Test.YtdiimgkopknbcaaGreatDoorK7
import Derived.Test.YtdiimgkopknbcaaGreatDoorK11
namespace Go.Proofs.YtdiimgkopknbcaaGreatDoor
open Go Go.ChangeShapes Go.WideShapes Go.ChangeAt Go.RowKit E
set_option maxRecDepth 100000
set_option linter.unusedVariables false
set_option linter.unusedSimpArgs false
theorem open_val {H : Type} {enc : TypeId × Value → H} {W : World} {b0 : Nat} {v : Value} {d : DataW H} {p : List MemPlace} (hv : Value.okWide Tryz.prog W .any b0 29 v) (h : DataW.Trod enc Tryz.prog W 0 (fun _ => true) true 29 v d p) :
    ∃ t, TR (memOf W) (encVal t) v ∧ (Rows.uptoBulk d ≤ big → smallV t) := by
  obtain ⟨n, hn⟩ := h
  obtain ⟨t, h1, h2⟩ := rd_val n _ d p hn
  simp only [Value.okWide, Tryz.underlying29] at hv
  obtain ⟨cs, rfl, _, _⟩ := hv
  refine ⟨t, ?_, h2⟩
  rw [encVal_eta] at h1 ⊢
  exact tr_of_rd h1
end Go.Proofs.YtdiimgkopknbcaaGreatDoor

/- How an argument that is a number, a list of numbers is opened. -/
namespace Go.Proofs.YtdiimgkopknbcaaGreatDoor
open Go Go.ChangeShapes Go.WideShapes Go.ChangeAt Go.RowKit E
set_option maxRecDepth 100000
set_option linter.unusedVariables false
set_option linter.unusedSimpArgs false
theorem open_num {H : Type} {enc : TypeId × Value → H} {W : World} {b0 : Nat} {v : Value} {d : DataW H} {p : List MemPlace} (hv : Value.okWide Tryz.prog W .any b0 3 v) (h : DataW.Trod enc Tryz.prog W 0 (fun _ => true) true 3 v d p) :
    ∃ k, TR (memOf W) (tInt k) v ∧ (Rows.uptoBulk d ≤ big → inI k) := by
  obtain ⟨n, hn⟩ := h
  obtain ⟨k, h1, h2⟩ := rd_num hn
  have hne : v.cells = #[v] := by
    cases v <;> first | rfl | skip
    simp [Value.okWide, Cell.okWide, Cell.ok, Tryz.underlying3] at hv
  have hu : v = .int .i64 k := by rw [hne] at h1; simpa using h1
  subst hu
  exact ⟨k, .v rfl, fun _ => h2⟩
end Go.Proofs.YtdiimgkopknbcaaGreatDoor
