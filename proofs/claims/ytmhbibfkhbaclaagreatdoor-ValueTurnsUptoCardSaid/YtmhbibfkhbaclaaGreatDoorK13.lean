/- How an argument that is a value is opened. -/
import Derived.Test.YtmhbibfkhbaclaaGreatDoorK7
import Derived.Test.YtmhbibfkhbaclaaGreatDoorK12
namespace Go.Proofs.YtmhbibfkhbaclaaGreatDoor
open Go Go.ChangeShapes Go.WideShapes Go.ChangeAt Go.RowKit E
set_option maxRecDepth 100000
set_option linter.unusedVariables false
set_option linter.unusedSimpArgs false
theorem open_val {H : Type} {enc : TypeId × Value → H} {W : World} {b0 : Nat} {v : Value} {d : DataW H} {p : List MemPlace} (hv : Value.okWide Tryz.prog W .any b0 29 v) (h : DataW.Trod enc Tryz.prog W 0 (fun _ => true) true 29 v d p) :
    ∃ t, TR (memOf W) (encVal t) v ∧ (Rows.uptoBulk d ≤ big → smallV t) := by
  obtain ⟨n, hn⟩ := h
  obtain ⟨t, h1, h2⟩ := rd_val n _ d p hn
  simp only [Value.okWide, Tryz.underlying29] at hv
  obtain ⟨cs, rfl, _, _⟩ := hv
  refine ⟨t, ?_, h2⟩
  rw [encVal_eta] at h1 ⊢
  exact tr_of_rd h1
end Go.Proofs.YtmhbibfkhbaclaaGreatDoor

/- How an argument that is a number, a list of numbers is opened. -/
namespace Go.Proofs.YtmhbibfkhbaclaaGreatDoor
open Go Go.ChangeShapes Go.WideShapes Go.ChangeAt Go.RowKit E
set_option maxRecDepth 100000
set_option linter.unusedVariables false
set_option linter.unusedSimpArgs false
theorem open_nums {H : Type} {enc : TypeId × Value → H} {W : World} {b0 : Nat} {v : Value} {d : DataW H} {p : List MemPlace} (hv : Value.okWide Tryz.prog W .any b0 26 v) (h : DataW.Trod enc Tryz.prog W 0 (fun _ => true) true 26 v d p) :
    ∃ (nl : Bool) (xs : List Int), TR (memOf W) (.sl nl (xs.map tInt)) v ∧ (Rows.uptoBulk d ≤ big → xs.length ≤ big ∧ ∀ x ∈ xs, inI x) := by
  obtain ⟨n, hn⟩ := h
  obtain ⟨u, nl, xs, h1, h2, h3, h4⟩ := rd_nums hn
  have hne : v.cells = #[v] := by
    cases v <;> first | rfl | skip
    simp [Value.okWide, Cell.okWide, Cell.ok, Tryz.underlying26] at hv
  have hu : v = u := by rw [hne] at h1; simpa using h1
  subst hu
  exact ⟨nl, xs, h2, fun hb => ⟨by omega, h3⟩⟩
end Go.Proofs.YtmhbibfkhbaclaaGreatDoor
