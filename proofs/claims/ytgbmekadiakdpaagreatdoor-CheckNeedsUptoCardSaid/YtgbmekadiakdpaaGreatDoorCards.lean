/-
  DERIVED. GIVEN WITH THE SEED: THE CARDS: each row of YtgbmekadiakdpaaGreatDoorRows.lean that lists a variable, with what it lists TIED to the program's text (the seventh form; the later family's looks); each row that meets fmt, with fmt's text TOLD by the authors' own Lean function (tested against real Go, not proved from fmt's source: count such statements apart). THE CARD IS WHAT COUNTS. Prove the row's statement (the work); the ties are given (YtgbmekadiakdpaaGreatDoorTie.lean); close each card by the builder's one call (the guide's Derived/Test/ToyasCard.lean, 'card_holds'). Laid BY PROGRAM, IN A SANDBOX (cutbox-door.mjs). By AI agents, Wed Nov 11 2026. No macro, syntax, notation, axiom, sorry.
-/
import Derived.Test.YtgbmekadiakdpaaGreatDoorRows
import GoSem.ClaimSeven
namespace Go.Proofs.YtgbmekadiakdpaaGreatDoor
namespace Rows

/-- THE TIED CARD OF 'scarflaw21.CheckNeeds'. -/
def checkNeedsCard : Claim7 := { stood := { row := checkNeedsRow, standIns := [], harness := (true, "9f1486b2162c19691ba2e598a396ff0a8b6feb377c6163a8c842ae43a6ffa652"), looks := false }, kinds := [], alts := [], laidByText := true, laidKinds := [.data, .data, .data, .data, .pinned], laidTests := true, laidLooks := .later }
def CheckNeedsCardSaid : Prop := Claim7.holds Tryz.pinned (.plain (OpenSpec.ofChange checkNeedsSpec)) checkNeedsCard

/-- THE SECOND FORM's CARD OF 'scarflaw21.CheckNeeds'. -/
def checkNeedsUptoCard : Claim7 := { stood := { row := checkNeedsUptoRow, standIns := [], harness := (true, "9f1486b2162c19691ba2e598a396ff0a8b6feb377c6163a8c842ae43a6ffa652"), looks := false }, kinds := [], alts := [], laidByText := true, laidKinds := [.data, .data, .data, .data, .pinned], laidTests := true, laidLooks := .later }
def CheckNeedsUptoCardSaid : Prop := Claim7.holds Tryz.pinned (.plain (OpenSpec.upto checkNeedsSpec)) checkNeedsUptoCard
end Rows
end Go.Proofs.YtgbmekadiakdpaaGreatDoor
