/- How an argument that is a value is opened. -/
import Derived.Test.YtldelbknkkeniaaGreatDoorK8
import Derived.Test.YtldelbknkkeniaaGreatDoorK13
namespace Go.Proofs.YtldelbknkkeniaaGreatDoor
open Go Go.ChangeShapes Go.WideShapes Go.ChangeAt Go.RowKit E
set_option maxRecDepth 100000
set_option linter.unusedVariables false
set_option linter.unusedSimpArgs false
theorem open_vals {H : Type} {enc : TypeId × Value → H} {W : World} {b0 : Nat} {v : Value} {d : DataW H} {p : List MemPlace} (hv : Value.okWide Tryz.prog W .any b0 29 v) (h : DataW.Trod enc Tryz.prog W 0 (fun _ => true) true 29 v d p) :
    ∃ nl xs, TR (memOf W) (.sl nl (encVals xs)) v ∧ (Rows.uptoBulk d ≤ big → xs.length ≤ big ∧ smallVs xs) := by
  obtain ⟨n, hn⟩ := h
  cases n with
  | zero => simp [DataW.trod] at hn
  | succ n =>
    obtain ⟨u, nl, xs, h1, h2, h3⟩ := rd_vals (rd_val n) hn
    have hne : v.cells = #[v] := by
      cases v <;> first | rfl | skip
      simp [Value.okWide, Cell.okWide, Cell.ok, Tryz.underlying29] at hv
    have hu : v = u := by rw [hne] at h1; simpa using h1
    subst hu
    exact ⟨nl, xs, h2, h3⟩
end Go.Proofs.YtldelbknkkeniaaGreatDoor

/- How an argument that is a number, a list of numbers is opened. -/
namespace Go.Proofs.YtldelbknkkeniaaGreatDoor
open Go Go.ChangeShapes Go.WideShapes Go.ChangeAt Go.RowKit E
set_option maxRecDepth 100000
set_option linter.unusedVariables false
set_option linter.unusedSimpArgs false
theorem open_num {H : Type} {enc : TypeId × Value → H} {W : World} {b0 : Nat} {v : Value} {d : DataW H} {p : List MemPlace} (hv : Value.okWide Tryz.prog W .any b0 3 v) (h : DataW.Trod enc Tryz.prog W 0 (fun _ => true) true 3 v d p) :
    ∃ k, TR (memOf W) (tInt k) v ∧ (Rows.uptoBulk d ≤ big → inI k) := by
  obtain ⟨n, hn⟩ := h
  obtain ⟨k, h1, h2⟩ := rd_num hn
  have hne : v.cells = #[v] := by
    cases v <;> first | rfl | skip
    simp [Value.okWide, Cell.okWide, Cell.ok, Tryz.underlying3] at hv
  have hu : v = .int .i64 k := by rw [hne] at h1; simpa using h1
  subst hu
  exact ⟨k, .v rfl, fun _ => h2⟩
theorem open_nums {H : Type} {enc : TypeId × Value → H} {W : World} {b0 : Nat} {v : Value} {d : DataW H} {p : List MemPlace} (hv : Value.okWide Tryz.prog W .any b0 28 v) (h : DataW.Trod enc Tryz.prog W 0 (fun _ => true) true 28 v d p) :
    ∃ (nl : Bool) (xs : List Int), TR (memOf W) (.sl nl (xs.map tInt)) v ∧ (Rows.uptoBulk d ≤ big → xs.length ≤ big ∧ ∀ x ∈ xs, inI x) := by
  obtain ⟨n, hn⟩ := h
  obtain ⟨u, nl, xs, h1, h2, h3, h4⟩ := rd_nums hn
  have hne : v.cells = #[v] := by
    cases v <;> first | rfl | skip
    simp [Value.okWide, Cell.okWide, Cell.ok, Tryz.underlying28] at hv
  have hu : v = u := by rw [hne] at h1; simpa using h1
  subst hu
  exact ⟨nl, xs, h2, fun hb => ⟨by omega, h3⟩⟩
end Go.Proofs.YtldelbknkkeniaaGreatDoor
