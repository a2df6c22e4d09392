/-
  DERIVED. GIVEN WITH THE SEED: THE CARDS: each row of YtldelbknkkeniaaGreatDoorRows.lean that lists a variable, with what it lists TIED to the program's text (the seventh form; the later family's looks); each row that meets fmt, with fmt's text TOLD by the authors' own Lean function (tested against real Go, not proved from fmt's source: count such statements apart). THE CARD IS WHAT COUNTS. Prove the row's statement (the work); the ties are given (YtldelbknkkeniaaGreatDoorTie.lean); close each card by the builder's one call (the guide's Derived/Test/ToyasCard.lean, 'card_holds'). Laid BY PROGRAM, IN A SANDBOX (cutbox-door.mjs). By AI agents, Wed Nov 11 2026. No macro, syntax, notation, axiom, sorry.
-/
import Derived.Test.YtldelbknkkeniaaGreatDoorRows
import GoSem.ClaimSeven
namespace Go.Proofs.YtldelbknkkeniaaGreatDoor
namespace Rows

/-- THE TIED CARD OF 'scarflaw18.LiftNone'. -/
def liftNoneCard : Claim7 := { stood := { row := liftNoneRow, standIns := [], harness := (true, "3190788e6b85cc38e2b3e66cfafe751f0556b1c71a914142be7c6d63236c8763"), looks := false }, kinds := [], alts := [], laidByText := true, laidKinds := [.data, .data, .data, .data, .pinned], laidTests := true, laidLooks := .later }
def LiftNoneCardSaid : Prop := Claim7.holds Tryz.pinned (.plain (OpenSpec.ofChange liftNoneSpec)) liftNoneCard

/-- THE SECOND FORM's CARD OF 'scarflaw18.LiftNone'. -/
def liftNoneUptoCard : Claim7 := { stood := { row := liftNoneUptoRow, standIns := [], harness := (true, "3190788e6b85cc38e2b3e66cfafe751f0556b1c71a914142be7c6d63236c8763"), looks := false }, kinds := [], alts := [], laidByText := true, laidKinds := [.data, .data, .data, .data, .pinned], laidTests := true, laidLooks := .later }
def LiftNoneUptoCardSaid : Prop := Claim7.holds Tryz.pinned (.plain (OpenSpec.upto liftNoneSpec)) liftNoneUptoCard
end Rows
end Go.Proofs.YtldelbknkkeniaaGreatDoor
