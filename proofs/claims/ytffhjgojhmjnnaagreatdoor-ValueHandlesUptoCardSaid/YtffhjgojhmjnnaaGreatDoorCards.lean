/-
  DERIVED. GIVEN WITH THE SEED: THE CARDS: each row of YtffhjgojhmjnnaaGreatDoorRows.lean that lists a variable, with what it lists TIED to the program's text (the seventh form; the later family's looks); each row that meets fmt, with fmt's text TOLD by the authors' own Lean function (tested against real Go, not proved from fmt's source: count such statements apart). THE CARD IS WHAT COUNTS. Prove the row's statement (the work); the ties are given (YtffhjgojhmjnnaaGreatDoorTie.lean); close each card by the builder's one call (the guide's Derived/Test/ToyasCard.lean, 'card_holds'). Laid BY PROGRAM, IN A SANDBOX (cutbox-door.mjs). By AI agents, Wed Nov 11 2026. No macro, syntax, notation, axiom, sorry.
-/
import Derived.Test.YtffhjgojhmjnnaaGreatDoorRows
import GoSem.ClaimSeven
namespace Go.Proofs.YtffhjgojhmjnnaaGreatDoor
namespace Rows

/-- THE TIED CARD OF 'scarflaw15.ValueChecks'. -/
def valueChecksCard : Claim7 := { stood := { row := valueChecksRow, standIns := [], harness := (true, "76ad0de43e6e581ce32d0adb79179a2365cad162bc5cbb2a5df042d600e2ad20"), looks := false }, kinds := [], alts := [], laidByText := true, laidKinds := [.data, .data, .data, .data, .pinned, .pinned], laidTests := true, laidLooks := .later }
def ValueChecksCardSaid : Prop := Claim7.holds Tryz.pinned (.plain (OpenSpec.ofChange valueChecksSpec)) valueChecksCard

/-- THE TIED CARD OF 'scarflaw15.ValueTexts'. -/
def valueTextsCard : Claim7 := { stood := { row := valueTextsRow, standIns := [], harness := (true, "76ad0de43e6e581ce32d0adb79179a2365cad162bc5cbb2a5df042d600e2ad20"), looks := false }, kinds := [], alts := [], laidByText := true, laidKinds := [.data, .data, .data, .data, .pinned, .pinned], laidTests := true, laidLooks := .later }
def ValueTextsCardSaid : Prop := Claim7.holds Tryz.pinned (.plain (OpenSpec.ofChange valueTextsSpec)) valueTextsCard

/-- THE TIED CARD OF 'scarflaw15.ValueApart'. -/
def valueApartCard : Claim7 := { stood := { row := valueApartRow, standIns := [], harness := (true, "76ad0de43e6e581ce32d0adb79179a2365cad162bc5cbb2a5df042d600e2ad20"), looks := false }, kinds := [], alts := [], laidByText := true, laidKinds := [.data, .data, .data, .data, .pinned, .pinned], laidTests := true, laidLooks := .later }
def ValueApartCardSaid : Prop := Claim7.holds Tryz.pinned (.plain (OpenSpec.ofChange valueApartSpec)) valueApartCard

/-- THE TIED CARD OF 'scarflaw15.ValueArgs'. -/
def valueArgsCard : Claim7 := { stood := { row := valueArgsRow, standIns := [], harness := (true, "76ad0de43e6e581ce32d0adb79179a2365cad162bc5cbb2a5df042d600e2ad20"), looks := false }, kinds := [], alts := [], laidByText := true, laidKinds := [.data, .data, .data, .data, .pinned, .pinned], laidTests := true, laidLooks := .later }
def ValueArgsCardSaid : Prop := Claim7.holds Tryz.pinned (.plain (OpenSpec.ofChange valueArgsSpec)) valueArgsCard

/-- THE TIED CARD OF 'scarflaw15.ValueHandles'. -/
def valueHandlesCard : Claim7 := { stood := { row := valueHandlesRow, standIns := [], harness := (true, "76ad0de43e6e581ce32d0adb79179a2365cad162bc5cbb2a5df042d600e2ad20"), looks := false }, kinds := [], alts := [], laidByText := true, laidKinds := [.data, .data, .data, .data, .pinned, .pinned], laidTests := true, laidLooks := .later }
def ValueHandlesCardSaid : Prop := Claim7.holds Tryz.pinned (.plain (OpenSpec.ofChange valueHandlesSpec)) valueHandlesCard

/-- THE SECOND FORM's CARD OF 'scarflaw15.ValueChecks'. -/
def valueChecksUptoCard : Claim7 := { stood := { row := valueChecksUptoRow, standIns := [], harness := (true, "76ad0de43e6e581ce32d0adb79179a2365cad162bc5cbb2a5df042d600e2ad20"), looks := false }, kinds := [], alts := [], laidByText := true, laidKinds := [.data, .data, .data, .data, .pinned, .pinned], laidTests := true, laidLooks := .later }
def ValueChecksUptoCardSaid : Prop := Claim7.holds Tryz.pinned (.plain (OpenSpec.upto valueChecksSpec)) valueChecksUptoCard

/-- THE SECOND FORM's CARD OF 'scarflaw15.ValueTexts'. -/
def valueTextsUptoCard : Claim7 := { stood := { row := valueTextsUptoRow, standIns := [], harness := (true, "76ad0de43e6e581ce32d0adb79179a2365cad162bc5cbb2a5df042d600e2ad20"), looks := false }, kinds := [], alts := [], laidByText := true, laidKinds := [.data, .data, .data, .data, .pinned, .pinned], laidTests := true, laidLooks := .later }
def ValueTextsUptoCardSaid : Prop := Claim7.holds Tryz.pinned (.plain (OpenSpec.upto valueTextsSpec)) valueTextsUptoCard

/-- THE SECOND FORM's CARD OF 'scarflaw15.ValueApart'. -/
def valueApartUptoCard : Claim7 := { stood := { row := valueApartUptoRow, standIns := [], harness := (true, "76ad0de43e6e581ce32d0adb79179a2365cad162bc5cbb2a5df042d600e2ad20"), looks := false }, kinds := [], alts := [], laidByText := true, laidKinds := [.data, .data, .data, .data, .pinned, .pinned], laidTests := true, laidLooks := .later }
def ValueApartUptoCardSaid : Prop := Claim7.holds Tryz.pinned (.plain (OpenSpec.upto valueApartSpec)) valueApartUptoCard

/-- THE SECOND FORM's CARD OF 'scarflaw15.ValueArgs'. -/
def valueArgsUptoCard : Claim7 := { stood := { row := valueArgsUptoRow, standIns := [], harness := (true, "76ad0de43e6e581ce32d0adb79179a2365cad162bc5cbb2a5df042d600e2ad20"), looks := false }, kinds := [], alts := [], laidByText := true, laidKinds := [.data, .data, .data, .data, .pinned, .pinned], laidTests := true, laidLooks := .later }
def ValueArgsUptoCardSaid : Prop := Claim7.holds Tryz.pinned (.plain (OpenSpec.upto valueArgsSpec)) valueArgsUptoCard

/-- THE SECOND FORM's CARD OF 'scarflaw15.ValueHandles'. -/
def valueHandlesUptoCard : Claim7 := { stood := { row := valueHandlesUptoRow, standIns := [], harness := (true, "76ad0de43e6e581ce32d0adb79179a2365cad162bc5cbb2a5df042d600e2ad20"), looks := false }, kinds := [], alts := [], laidByText := true, laidKinds := [.data, .data, .data, .data, .pinned, .pinned], laidTests := true, laidLooks := .later }
def ValueHandlesUptoCardSaid : Prop := Claim7.holds Tryz.pinned (.plain (OpenSpec.upto valueHandlesSpec)) valueHandlesUptoCard
end Rows
end Go.Proofs.YtffhjgojhmjnnaaGreatDoor
