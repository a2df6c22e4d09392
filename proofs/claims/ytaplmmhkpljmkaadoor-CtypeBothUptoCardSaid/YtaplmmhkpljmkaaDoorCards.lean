/-
  DERIVED. GIVEN WITH THE SEED: THE CARDS: each row of YtaplmmhkpljmkaaDoorRows.lean that lists a variable, with what it lists TIED to the program's text (the seventh form; the later family's looks); each row that meets fmt, with fmt's text TOLD by the authors' own Lean function (tested against real Go, not proved from fmt's source: count such statements apart). THE CARD IS WHAT COUNTS. Prove the row's statement (the work); the ties are given (YtaplmmhkpljmkaaDoorTie.lean); close each card by the builder's one call (the guide's Derived/Test/ToyasCard.lean, 'card_holds'). Laid BY PROGRAM, IN A SANDBOX (cutbox-door.mjs). By AI agents, Wed Nov 11 2026. No macro, syntax, notation, axiom, sorry.
-/
import Derived.Test.YtaplmmhkpljmkaaDoorRows
import GoSem.ClaimSeven
namespace Go.Proofs.YtaplmmhkpljmkaaDoor
namespace Rows

/-- THE TIED CARD OF 'scarflaw13.CtypePlain'. -/
def ctypePlainCard : Claim7 := { stood := { row := ctypePlainRow, standIns := [], harness := (true, "7975b01780e3cadefeb65abf914ec198889df33d7e42928fb25a88a1f2b1f51f"), looks := false }, kinds := [], alts := [], laidByText := true, laidKinds := [.data, .data, .data, .data, .pinned], laidTests := true, laidLooks := .later }
def CtypePlainCardSaid : Prop := Claim7.holds Tryd.pinned (.plain (OpenSpec.ofChange ctypePlainSpec)) ctypePlainCard

/-- THE TIED CARD OF 'scarflaw13.CtypeChecks'. -/
def ctypeChecksCard : Claim7 := { stood := { row := ctypeChecksRow, standIns := [], harness := (true, "7975b01780e3cadefeb65abf914ec198889df33d7e42928fb25a88a1f2b1f51f"), looks := false }, kinds := [], alts := [], laidByText := true, laidKinds := [.data, .data, .data, .data, .pinned], laidTests := true, laidLooks := .later }
def CtypeChecksCardSaid : Prop := Claim7.holds Tryd.pinned (.plain (OpenSpec.ofChange ctypeChecksSpec)) ctypeChecksCard

/-- THE TIED CARD OF 'scarflaw13.CtypeAligned'. -/
def ctypeAlignedCard : Claim7 := { stood := { row := ctypeAlignedRow, standIns := [], harness := (true, "7975b01780e3cadefeb65abf914ec198889df33d7e42928fb25a88a1f2b1f51f"), looks := false }, kinds := [], alts := [], laidByText := true, laidKinds := [.data, .data, .data, .data, .pinned], laidTests := true, laidLooks := .later }
def CtypeAlignedCardSaid : Prop := Claim7.holds Tryd.pinned (.plain (OpenSpec.ofChange ctypeAlignedSpec)) ctypeAlignedCard

/-- THE TIED CARD OF 'scarflaw13.CtypeCores'. -/
def ctypeCoresCard : Claim7 := { stood := { row := ctypeCoresRow, standIns := [], harness := (true, "7975b01780e3cadefeb65abf914ec198889df33d7e42928fb25a88a1f2b1f51f"), looks := false }, kinds := [], alts := [], laidByText := true, laidKinds := [.data, .data, .data, .data, .pinned], laidTests := true, laidLooks := .later }
def CtypeCoresCardSaid : Prop := Claim7.holds Tryd.pinned (.plain (OpenSpec.ofChange ctypeCoresSpec)) ctypeCoresCard

/-- THE TIED CARD OF 'scarflaw13.CtypeBoth'. -/
def ctypeBothCard : Claim7 := { stood := { row := ctypeBothRow, standIns := [], harness := (true, "7975b01780e3cadefeb65abf914ec198889df33d7e42928fb25a88a1f2b1f51f"), looks := false }, kinds := [], alts := [], laidByText := true, laidKinds := [.data, .data, .data, .data, .pinned], laidTests := true, laidLooks := .later }
def CtypeBothCardSaid : Prop := Claim7.holds Tryd.pinned (.plain (OpenSpec.ofChange ctypeBothSpec)) ctypeBothCard

/-- THE SECOND FORM's CARD OF 'scarflaw13.CtypePlain'. -/
def ctypePlainUptoCard : Claim7 := { stood := { row := ctypePlainUptoRow, standIns := [], harness := (true, "7975b01780e3cadefeb65abf914ec198889df33d7e42928fb25a88a1f2b1f51f"), looks := false }, kinds := [], alts := [], laidByText := true, laidKinds := [.data, .data, .data, .data, .pinned], laidTests := true, laidLooks := .later }
def CtypePlainUptoCardSaid : Prop := Claim7.holds Tryd.pinned (.plain (OpenSpec.upto ctypePlainSpec)) ctypePlainUptoCard

/-- THE SECOND FORM's CARD OF 'scarflaw13.CtypeChecks'. -/
def ctypeChecksUptoCard : Claim7 := { stood := { row := ctypeChecksUptoRow, standIns := [], harness := (true, "7975b01780e3cadefeb65abf914ec198889df33d7e42928fb25a88a1f2b1f51f"), looks := false }, kinds := [], alts := [], laidByText := true, laidKinds := [.data, .data, .data, .data, .pinned], laidTests := true, laidLooks := .later }
def CtypeChecksUptoCardSaid : Prop := Claim7.holds Tryd.pinned (.plain (OpenSpec.upto ctypeChecksSpec)) ctypeChecksUptoCard

/-- THE SECOND FORM's CARD OF 'scarflaw13.CtypeAligned'. -/
def ctypeAlignedUptoCard : Claim7 := { stood := { row := ctypeAlignedUptoRow, standIns := [], harness := (true, "7975b01780e3cadefeb65abf914ec198889df33d7e42928fb25a88a1f2b1f51f"), looks := false }, kinds := [], alts := [], laidByText := true, laidKinds := [.data, .data, .data, .data, .pinned], laidTests := true, laidLooks := .later }
def CtypeAlignedUptoCardSaid : Prop := Claim7.holds Tryd.pinned (.plain (OpenSpec.upto ctypeAlignedSpec)) ctypeAlignedUptoCard

/-- THE SECOND FORM's CARD OF 'scarflaw13.CtypeCores'. -/
def ctypeCoresUptoCard : Claim7 := { stood := { row := ctypeCoresUptoRow, standIns := [], harness := (true, "7975b01780e3cadefeb65abf914ec198889df33d7e42928fb25a88a1f2b1f51f"), looks := false }, kinds := [], alts := [], laidByText := true, laidKinds := [.data, .data, .data, .data, .pinned], laidTests := true, laidLooks := .later }
def CtypeCoresUptoCardSaid : Prop := Claim7.holds Tryd.pinned (.plain (OpenSpec.upto ctypeCoresSpec)) ctypeCoresUptoCard

/-- THE SECOND FORM's CARD OF 'scarflaw13.CtypeBoth'. -/
def ctypeBothUptoCard : Claim7 := { stood := { row := ctypeBothUptoRow, standIns := [], harness := (true, "7975b01780e3cadefeb65abf914ec198889df33d7e42928fb25a88a1f2b1f51f"), looks := false }, kinds := [], alts := [], laidByText := true, laidKinds := [.data, .data, .data, .data, .pinned], laidTests := true, laidLooks := .later }
def CtypeBothUptoCardSaid : Prop := Claim7.holds Tryd.pinned (.plain (OpenSpec.upto ctypeBothSpec)) ctypeBothUptoCard
end Rows
end Go.Proofs.YtaplmmhkpljmkaaDoor
