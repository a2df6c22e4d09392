/- How an argument that is a value is opened. -/
import Derived.Test.YtffhjgojhmjnnaaGreatDoorK8
import Derived.Test.YtffhjgojhmjnnaaGreatDoorK13
namespace Go.Proofs.YtffhjgojhmjnnaaGreatDoor
open Go Go.ChangeShapes Go.WideShapes Go.ChangeAt Go.RowKit E
set_option maxRecDepth 100000
set_option linter.unusedVariables false
set_option linter.unusedSimpArgs false
theorem open_val {H : Type} {enc : TypeId × Value → H} {W : World} {b0 : Nat} {v : Value} {d : DataW H} {p : List MemPlace} (hv : Value.okWide Tryz.prog W .any b0 29 v) (h : DataW.Trod enc Tryz.prog W 0 (fun _ => true) true 29 v d p) :
    ∃ t, TR (memOf W) (encVal t) v ∧ (Rows.uptoBulk d ≤ big → smallV t) := by
  obtain ⟨n, hn⟩ := h
  obtain ⟨t, h1, h2⟩ := rd_val n _ d p hn
  simp only [Value.okWide, Tryz.underlying29] at hv
  obtain ⟨cs, rfl, _, _⟩ := hv
  refine ⟨t, ?_, h2⟩
  rw [encVal_eta] at h1 ⊢
  exact tr_of_rd h1
theorem open_vals {H : Type} {enc : TypeId × Value → H} {W : World} {b0 : Nat} {v : Value} {d : DataW H} {p : List MemPlace} (hv : Value.okWide Tryz.prog W .any b0 27 v) (h : DataW.Trod enc Tryz.prog W 0 (fun _ => true) true 27 v d p) :
    ∃ nl xs, TR (memOf W) (.sl nl (encVals xs)) v ∧ (Rows.uptoBulk d ≤ big → xs.length ≤ big ∧ smallVs xs) := by
  obtain ⟨n, hn⟩ := h
  cases n with
  | zero => simp [DataW.trod] at hn
  | succ n =>
    obtain ⟨u, nl, xs, h1, h2, h3⟩ := rd_vals (rd_val n) hn
    have hne : v.cells = #[v] := by
      cases v <;> first | rfl | skip
      simp [Value.okWide, Cell.okWide, Cell.ok, Tryz.underlying27] at hv
    have hu : v = u := by rw [hne] at h1; simpa using h1
    subst hu
    exact ⟨nl, xs, h2, h3⟩
end Go.Proofs.YtffhjgojhmjnnaaGreatDoor
