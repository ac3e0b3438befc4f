/-
  DERIVED. GIVEN WITH THE SEED: THE CARDS: each row of YtaepcfidpcoofaaGreatDoorRows.lean that lists a variable, with what it lists TIED to the program's text (the seventh form; the later family's looks); each row that meets fmt, with fmt's text TOLD by the authors' own Lean function (tested against real Go, not proved from fmt's source: count such statements apart). THE CARD IS WHAT COUNTS. Prove the row's statement (the work); the ties are given (YtaepcfidpcoofaaGreatDoorTie.lean); close each card by the builder's one call (the guide's Derived/Test/ToyasCard.lean, 'card_holds'). Laid BY PROGRAM, IN A SANDBOX (cutbox-door.mjs). By AI agents, Wed Nov 11 2026. No macro, syntax, notation, axiom, sorry.
-/
import Derived.Test.YtaepcfidpcoofaaGreatDoorRows
import GoSem.ClaimSeven
namespace Go.Proofs.YtaepcfidpcoofaaGreatDoor
namespace Rows

/-- THE TIED CARD OF 'cosignerlaw02.ReadParts'. -/
def readPartsCard : Claim7 := { stood := { row := readPartsRow, standIns := [], harness := (true, "c5b39f24bd0d8621a3b9abcd77e7f154cbd582e8092ac4ab3713ec4e84a0fd13"), looks := true }, kinds := [], alts := [], laidByText := true, laidKinds := [.data, .data, .data, .data, .listed, .data, .pinned], laidTests := true, laidLooks := .later }
def ReadPartsCardSaid : Prop := Claim7.holds Tryz.pinned (.plain (OpenSpec.ofChange readPartsSpec)) readPartsCard

/-- THE TIED CARD OF 'cosignerlaw02.ReadParses'. -/
def readParsesCard : Claim7 := { stood := { row := readParsesRow, standIns := [], harness := (true, "c5b39f24bd0d8621a3b9abcd77e7f154cbd582e8092ac4ab3713ec4e84a0fd13"), looks := true }, kinds := [], alts := [], laidByText := true, laidKinds := [.data, .data, .data, .data, .listed, .data, .pinned], laidTests := true, laidLooks := .later }
def ReadParsesCardSaid : Prop := Claim7.holds Tryz.pinned (.plain (OpenSpec.ofChange readParsesSpec)) readParsesCard

/-- THE TIED CARD OF 'cosignerlaw02.ReadSlips'. -/
def readSlipsCard : Claim7 := { stood := { row := readSlipsRow, standIns := [], harness := (true, "c5b39f24bd0d8621a3b9abcd77e7f154cbd582e8092ac4ab3713ec4e84a0fd13"), looks := true }, kinds := [], alts := [], laidByText := true, laidKinds := [.data, .data, .data, .data, .listed, .data, .pinned], laidTests := true, laidLooks := .later }
def ReadSlipsCardSaid : Prop := Claim7.holds Tryz.pinned (.plain (OpenSpec.ofChange readSlipsSpec)) readSlipsCard

/-- THE TIED CARD OF 'cosignerlaw02.ReadNoBracket'. -/
def readNoBracketCard : Claim7 := { stood := { row := readNoBracketRow, standIns := [], harness := (true, "c5b39f24bd0d8621a3b9abcd77e7f154cbd582e8092ac4ab3713ec4e84a0fd13"), looks := true }, kinds := [], alts := [], laidByText := true, laidKinds := [.data, .data, .data, .data, .listed, .data, .pinned], laidTests := true, laidLooks := .later }
def ReadNoBracketCardSaid : Prop := Claim7.holds Tryz.pinned (.plain (OpenSpec.ofChange readNoBracketSpec)) readNoBracketCard

/-- THE TIED CARD OF 'cosignerlaw02.ReadTexts'. -/
def readTextsCard : Claim7 := { stood := { row := readTextsRow, standIns := [], harness := (true, "c5b39f24bd0d8621a3b9abcd77e7f154cbd582e8092ac4ab3713ec4e84a0fd13"), looks := true }, kinds := [], alts := [], laidByText := true, laidKinds := [.data, .data, .data, .data, .listed, .data, .pinned], laidTests := true, laidLooks := .later }
def ReadTextsCardSaid : Prop := Claim7.holds Tryz.pinned (.plain (OpenSpec.ofChange readTextsSpec)) readTextsCard

/-- THE TIED CARD OF 'cosignerlaw02.ReadPartsBack'. -/
def readPartsBackCard : Claim7 := { stood := { row := readPartsBackRow, standIns := [], harness := (true, "c5b39f24bd0d8621a3b9abcd77e7f154cbd582e8092ac4ab3713ec4e84a0fd13"), looks := true }, kinds := [], alts := [], laidByText := true, laidKinds := [.data, .data, .data, .data, .listed, .data, .pinned], laidTests := true, laidLooks := .later }
def ReadPartsBackCardSaid : Prop := Claim7.holds Tryz.pinned (.plain (OpenSpec.ofChange readPartsBackSpec)) readPartsBackCard

/-- THE TIED CARD OF 'cosignerlaw02.ReadComments'. -/
def readCommentsCard : Claim7 := { stood := { row := readCommentsRow, standIns := [], harness := (true, "c5b39f24bd0d8621a3b9abcd77e7f154cbd582e8092ac4ab3713ec4e84a0fd13"), looks := true }, kinds := [], alts := [], laidByText := true, laidKinds := [.data, .data, .data, .data, .listed, .data, .pinned], laidTests := true, laidLooks := .later }
def ReadCommentsCardSaid : Prop := Claim7.holds Tryz.pinned (.plain (OpenSpec.ofChange readCommentsSpec)) readCommentsCard

/-- THE TIED CARD OF 'cosignerlaw02.ReadPrints'. -/
def readPrintsCard : Claim7 := { stood := { row := readPrintsRow, standIns := [], harness := (true, "c5b39f24bd0d8621a3b9abcd77e7f154cbd582e8092ac4ab3713ec4e84a0fd13"), looks := true }, kinds := [], alts := [], laidByText := true, laidKinds := [.data, .data, .data, .data, .listed, .data, .pinned], laidTests := true, laidLooks := .later }
def ReadPrintsCardSaid : Prop := Claim7.holds Tryz.pinned (.plain (OpenSpec.ofChange readPrintsSpec)) readPrintsCard

/-- THE TIED CARD OF 'cosignerlaw02.ReadThereAndBack'. -/
def readThereAndBackCard : Claim7 := { stood := { row := readThereAndBackRow, standIns := [], harness := (true, "c5b39f24bd0d8621a3b9abcd77e7f154cbd582e8092ac4ab3713ec4e84a0fd13"), looks := true }, kinds := [], alts := [], laidByText := true, laidKinds := [.data, .data, .data, .data, .listed, .data, .pinned], laidTests := true, laidLooks := .later }
def ReadThereAndBackCardSaid : Prop := Claim7.holds Tryz.pinned (.plain (OpenSpec.ofChange readThereAndBackSpec)) readThereAndBackCard

/-- THE SECOND FORM's CARD OF 'cosignerlaw02.ReadParts'. -/
def readPartsUptoCard : Claim7 := { stood := { row := readPartsUptoRow, standIns := [], harness := (true, "c5b39f24bd0d8621a3b9abcd77e7f154cbd582e8092ac4ab3713ec4e84a0fd13"), looks := true }, kinds := [], alts := [], laidByText := true, laidKinds := [.data, .data, .data, .data, .listed, .data, .pinned], laidTests := true, laidLooks := .later }
def ReadPartsUptoCardSaid : Prop := Claim7.holds Tryz.pinned (.plain (OpenSpec.upto readPartsSpec)) readPartsUptoCard

/-- THE SECOND FORM's CARD OF 'cosignerlaw02.ReadParses'. -/
def readParsesUptoCard : Claim7 := { stood := { row := readParsesUptoRow, standIns := [], harness := (true, "c5b39f24bd0d8621a3b9abcd77e7f154cbd582e8092ac4ab3713ec4e84a0fd13"), looks := true }, kinds := [], alts := [], laidByText := true, laidKinds := [.data, .data, .data, .data, .listed, .data, .pinned], laidTests := true, laidLooks := .later }
def ReadParsesUptoCardSaid : Prop := Claim7.holds Tryz.pinned (.plain (OpenSpec.upto readParsesSpec)) readParsesUptoCard

/-- THE SECOND FORM's CARD OF 'cosignerlaw02.ReadSlips'. -/
def readSlipsUptoCard : Claim7 := { stood := { row := readSlipsUptoRow, standIns := [], harness := (true, "c5b39f24bd0d8621a3b9abcd77e7f154cbd582e8092ac4ab3713ec4e84a0fd13"), looks := true }, kinds := [], alts := [], laidByText := true, laidKinds := [.data, .data, .data, .data, .listed, .data, .pinned], laidTests := true, laidLooks := .later }
def ReadSlipsUptoCardSaid : Prop := Claim7.holds Tryz.pinned (.plain (OpenSpec.upto readSlipsSpec)) readSlipsUptoCard

/-- THE SECOND FORM's CARD OF 'cosignerlaw02.ReadNoBracket'. -/
def readNoBracketUptoCard : Claim7 := { stood := { row := readNoBracketUptoRow, standIns := [], harness := (true, "c5b39f24bd0d8621a3b9abcd77e7f154cbd582e8092ac4ab3713ec4e84a0fd13"), looks := true }, kinds := [], alts := [], laidByText := true, laidKinds := [.data, .data, .data, .data, .listed, .data, .pinned], laidTests := true, laidLooks := .later }
def ReadNoBracketUptoCardSaid : Prop := Claim7.holds Tryz.pinned (.plain (OpenSpec.upto readNoBracketSpec)) readNoBracketUptoCard

/-- THE SECOND FORM's CARD OF 'cosignerlaw02.ReadTexts'. -/
def readTextsUptoCard : Claim7 := { stood := { row := readTextsUptoRow, standIns := [], harness := (true, "c5b39f24bd0d8621a3b9abcd77e7f154cbd582e8092ac4ab3713ec4e84a0fd13"), looks := true }, kinds := [], alts := [], laidByText := true, laidKinds := [.data, .data, .data, .data, .listed, .data, .pinned], laidTests := true, laidLooks := .later }
def ReadTextsUptoCardSaid : Prop := Claim7.holds Tryz.pinned (.plain (OpenSpec.upto readTextsSpec)) readTextsUptoCard

/-- THE SECOND FORM's CARD OF 'cosignerlaw02.ReadPartsBack'. -/
def readPartsBackUptoCard : Claim7 := { stood := { row := readPartsBackUptoRow, standIns := [], harness := (true, "c5b39f24bd0d8621a3b9abcd77e7f154cbd582e8092ac4ab3713ec4e84a0fd13"), looks := true }, kinds := [], alts := [], laidByText := true, laidKinds := [.data, .data, .data, .data, .listed, .data, .pinned], laidTests := true, laidLooks := .later }
def ReadPartsBackUptoCardSaid : Prop := Claim7.holds Tryz.pinned (.plain (OpenSpec.upto readPartsBackSpec)) readPartsBackUptoCard

/-- THE SECOND FORM's CARD OF 'cosignerlaw02.ReadComments'. -/
def readCommentsUptoCard : Claim7 := { stood := { row := readCommentsUptoRow, standIns := [], harness := (true, "c5b39f24bd0d8621a3b9abcd77e7f154cbd582e8092ac4ab3713ec4e84a0fd13"), looks := true }, kinds := [], alts := [], laidByText := true, laidKinds := [.data, .data, .data, .data, .listed, .data, .pinned], laidTests := true, laidLooks := .later }
def ReadCommentsUptoCardSaid : Prop := Claim7.holds Tryz.pinned (.plain (OpenSpec.upto readCommentsSpec)) readCommentsUptoCard

/-- THE SECOND FORM's CARD OF 'cosignerlaw02.ReadPrints'. -/
def readPrintsUptoCard : Claim7 := { stood := { row := readPrintsUptoRow, standIns := [], harness := (true, "c5b39f24bd0d8621a3b9abcd77e7f154cbd582e8092ac4ab3713ec4e84a0fd13"), looks := true }, kinds := [], alts := [], laidByText := true, laidKinds := [.data, .data, .data, .data, .listed, .data, .pinned], laidTests := true, laidLooks := .later }
def ReadPrintsUptoCardSaid : Prop := Claim7.holds Tryz.pinned (.plain (OpenSpec.upto readPrintsSpec)) readPrintsUptoCard

/-- THE SECOND FORM's CARD OF 'cosignerlaw02.ReadThereAndBack'. -/
def readThereAndBackUptoCard : Claim7 := { stood := { row := readThereAndBackUptoRow, standIns := [], harness := (true, "c5b39f24bd0d8621a3b9abcd77e7f154cbd582e8092ac4ab3713ec4e84a0fd13"), looks := true }, kinds := [], alts := [], laidByText := true, laidKinds := [.data, .data, .data, .data, .listed, .data, .pinned], laidTests := true, laidLooks := .later }
def ReadThereAndBackUptoCardSaid : Prop := Claim7.holds Tryz.pinned (.plain (OpenSpec.upto readThereAndBackSpec)) readThereAndBackUptoCard
end Rows
end Go.Proofs.YtaepcfidpcoofaaGreatDoor
