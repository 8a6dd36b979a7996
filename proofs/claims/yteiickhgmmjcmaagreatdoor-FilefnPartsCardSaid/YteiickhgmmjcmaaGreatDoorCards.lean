/-
  DERIVED. GIVEN WITH THE SEED: THE CARDS: each row of YteiickhgmmjcmaaGreatDoorRows.lean that lists a variable, with what it lists TIED to the program's text (the seventh form; the later family's looks); each row that meets fmt, with fmt's text TOLD by the authors' own Lean function (tested against real Go, not proved from fmt's source: count such statements apart). THE CARD IS WHAT COUNTS. Prove the row's statement (the work); the ties are given (YteiickhgmmjcmaaGreatDoorTie.lean); close each card by the builder's one call (the guide's Derived/Test/ToyasCard.lean, 'card_holds'). Laid BY PROGRAM, IN A SANDBOX (cutbox-door.mjs). By AI agents, Wed Nov 11 2026. No macro, syntax, notation, axiom, sorry.
-/
import Derived.Test.YteiickhgmmjcmaaGreatDoorRows
import GoSem.ClaimSeven
namespace Go.Proofs.YteiickhgmmjcmaaGreatDoor
namespace Rows

/-- THE TIED CARD OF 'wainwrightlaw20.FilefnNumbers'. -/
def filefnNumbersCard : Claim7 := { stood := { row := filefnNumbersRow, standIns := [], harness := (true, "a62ca802b5b4453e01864ab1f6317f0ec54ca1090d930daa376ab726133441c7"), looks := false }, kinds := [], alts := [], laidByText := true, laidKinds := [.data, .pinned], laidTests := true, laidLooks := .later }
def FilefnNumbersCardSaid : Prop := Claim7.holds Tryz.pinned (.plain (OpenSpec.ofChange filefnNumbersSpec)) filefnNumbersCard

/-- THE TIED CARD OF 'wainwrightlaw20.FilefnParts'. -/
def filefnPartsCard : Claim7 := { stood := { row := filefnPartsRow, standIns := [], harness := (true, "a62ca802b5b4453e01864ab1f6317f0ec54ca1090d930daa376ab726133441c7"), looks := false }, kinds := [], alts := [], laidByText := true, laidKinds := [.data, .pinned], laidTests := true, laidLooks := .later }
def FilefnPartsCardSaid : Prop := Claim7.holds Tryz.pinned (.plain (OpenSpec.ofChange filefnPartsSpec)) filefnPartsCard

/-- THE SECOND FORM's CARD OF 'wainwrightlaw20.FilefnNumbers'. -/
def filefnNumbersUptoCard : Claim7 := { stood := { row := filefnNumbersUptoRow, standIns := [], harness := (true, "a62ca802b5b4453e01864ab1f6317f0ec54ca1090d930daa376ab726133441c7"), looks := false }, kinds := [], alts := [], laidByText := true, laidKinds := [.data, .pinned], laidTests := true, laidLooks := .later }
def FilefnNumbersUptoCardSaid : Prop := Claim7.holds Tryz.pinned (.plain (OpenSpec.upto filefnNumbersSpec)) filefnNumbersUptoCard

/-- THE SECOND FORM's CARD OF 'wainwrightlaw20.FilefnParts'. -/
def filefnPartsUptoCard : Claim7 := { stood := { row := filefnPartsUptoRow, standIns := [], harness := (true, "a62ca802b5b4453e01864ab1f6317f0ec54ca1090d930daa376ab726133441c7"), looks := false }, kinds := [], alts := [], laidByText := true, laidKinds := [.data, .pinned], laidTests := true, laidLooks := .later }
def FilefnPartsUptoCardSaid : Prop := Claim7.holds Tryz.pinned (.plain (OpenSpec.upto filefnPartsSpec)) filefnPartsUptoCard
end Rows
end Go.Proofs.YteiickhgmmjcmaaGreatDoor
