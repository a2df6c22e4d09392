/- What the rows of layer 13 share: the listed tables' world; how arguments are opened. -/
import Derived.Test.YtgbmekadiakdpaaGreatDoorK5
import Derived.Test.YtgbmekadiakdpaaGreatDoorCards
import Derived.Test.YtgbmekadiakdpaaGreatDoorTie
import Derived.WalkKit
import Derived.ProofKit
import Derived.OpenShut
import Derived.Carry
import Derived.Deep.DeepHandedRow
namespace Go.Proofs.YtgbmekadiakdpaaGreatDoor
open Go Go.ChangeShapes Go.WideShapes Go.ChangeAt Go.RowKit E
set_option maxRecDepth 100000
set_option linter.unusedVariables false
set_option linter.unusedSimpArgs false
theorem own : ownKnob Tryz.prog.godebug = none := by kernel_rfl
theorem laidOut : laidOutB Tryz.prog = true := by kernel_rfl
/-- A table's cells. -/
def tabCells : DataW Unit → Array Value
  | .agg ps => (ps.flatMap fun p => match p with
    | .lit (.int k n) => [.int k n]
    | .agg qs => qs.filterMap fun q => match q with
      | .lit (.int k n) => some (.int k n)
      | _ => none
    | _ => []).toArray
  | _ => #[]
def setCells (cs : Array Value) : Obj → Obj
  | .cells _ t fr => .cells cs t fr
  | o => o
/-- A world in which the listed tables lie. -/
noncomputable def laidWorld (os : Os) : World :=
  { World.holding Tryz.prog os ⟨#[], #[], []⟩ with heap := (((((World.holding Tryz.prog os ⟨#[], #[], []⟩).heap.modify 1 (setCells (tabCells Rows.laid_internal_strconv_uint64pow10))).modify 4 (setCells (tabCells Rows.laid_math_bits_deBruijn32tab))).modify 5 (setCells (tabCells Rows.laid_math_bits_deBruijn64tab))).modify 2 (setCells (tabCells Rows.laid_unicode_utf8_first))).modify 3 (setCells (tabCells Rows.laid_unicode_utf8_acceptRanges)) }
theorem tr_of_rd {F : FMem} {xs : List T} {cs : Array Value} (h : Rd F (.agg xs) cs.toList) : TR F (.agg xs) (.agg cs) := by
  refine .agg (by simpa [T.leaves] using h.len) (fun i x u hx hu => ?_)
  obtain ⟨v, h1, h2⟩ := h.get i x hx
  rw [Array.getElem?_toList] at h1
  rw [hu] at h1; cases h1; exact h2
/-- An argument that is a component's type. -/
theorem open_ty {H : Type} {enc : TypeId × Value → H} {W : World} {b0 : Nat} {v : Value} {d : DataW H} {p : List MemPlace} (hv : Value.okWide Tryz.prog W .any b0 25 v) (h : DataW.Trod enc Tryz.prog W 0 (fun _ => true) true 25 v d p) :
    ∃ t, TR (memOf W) (encTy t) v ∧ (Rows.uptoBulk d ≤ big → small t) := by
  obtain ⟨n, hn⟩ := h
  obtain ⟨t, h1, h2⟩ := rd_ty n _ d p hn
  simp only [Value.okWide, Tryz.underlying25] at hv
  obtain ⟨cs, rfl, _, _⟩ := hv
  refine ⟨t, ?_, h2⟩
  rw [encTy_eta] at h1 ⊢
  exact tr_of_rd h1
theorem open_sg {H : Type} {enc : TypeId × Value → H} {W : World} {b0 : Nat} {v : Value} {d : DataW H} {p : List MemPlace} (hv : Value.okWide Tryz.prog W .any b0 27 v) (h : DataW.Trod enc Tryz.prog W 0 (fun _ => true) true 27 v d p) :
    ∃ s, TR (memOf W) (encSg s) v ∧ (Rows.uptoBulk d ≤ big → smallSg s) := by
  obtain ⟨n, hn⟩ := h
  obtain ⟨s, h1, h2⟩ := rd_sg hn
  simp only [Value.okWide, Tryz.underlying27] at hv
  obtain ⟨cs, rfl, _, _⟩ := hv
  refine ⟨s, ?_, h2⟩
  rw [encSg_eta] at h1 ⊢
  exact tr_of_rd h1
/-- What a contract over trees says of a call. -/
theorem calls_true {f : FuncId} {xs : List T} (h : E.Pure Tryz.prog f xs (.one (.t (tBool true)))) {W : World} {args : Array Value} (hn : xs.length = args.size) (ha : ∀ (i : Nat) (x : T) (v : Value), xs[i]? = some x → args[i]? = some v → TR (memOf W) x v) :
    Calls Tryz.prog f args W fun e W' => e = .returned (.bool true) ∧ Below W.heap.size W W' := by
  refine (h (memOf W) args W (memOf_ok W) hn ha).mono ?_
  rintro e w' ⟨rv, F', rfl, _, _, _, hb, hr⟩
  cases hr with | one hr => cases hr with | t ht => cases ht with | v _ => exact ⟨rfl, hb⟩
end Go.Proofs.YtgbmekadiakdpaaGreatDoor
