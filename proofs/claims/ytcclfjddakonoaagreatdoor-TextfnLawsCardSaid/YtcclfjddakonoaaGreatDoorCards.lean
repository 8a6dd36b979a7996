/-
  DERIVED. GIVEN WITH THE SEED: THE CARDS: each row of YtcclfjddakonoaaGreatDoorRows.lean that lists a variable, with what it lists TIED to the program's text (the seventh form; the later family's looks); each row that meets fmt, with fmt's text TOLD by the authors' own Lean function (tested against real Go, not proved from fmt's source: count such statements apart). THE CARD IS WHAT COUNTS. Prove the row's statement (the work); the ties are given (YtcclfjddakonoaaGreatDoorTie.lean); close each card by the builder's one call (the guide's Derived/Test/ToyasCard.lean, 'card_holds'). Laid BY PROGRAM, IN A SANDBOX (cutbox-door.mjs). By AI agents, Wed Nov 11 2026. No macro, syntax, notation, axiom, sorry.
-/
import Derived.Test.YtcclfjddakonoaaGreatDoorRows
import GoSem.ClaimSeven
namespace Go.Proofs.YtcclfjddakonoaaGreatDoor
namespace Rows

/-- THE TIED CARD OF 'wainwrightlaw18.TextfnAll'. -/
def textfnAllCard : Claim7 := { stood := { row := textfnAllRow, standIns := [], harness := (true, "fb422c23d178b6475010002bfb515a92d3877c3041afe9723204b5a82e6988f3"), looks := false }, kinds := [], alts := [], laidByText := true, laidKinds := [.data, .pinned], laidTests := true, laidLooks := .later }
def TextfnAllCardSaid : Prop := Claim7.holds Tryz.pinned (.plain (OpenSpec.ofChange textfnAllSpec)) textfnAllCard

/-- THE TIED CARD OF 'wainwrightlaw18.TextfnNumbers'. -/
def textfnNumbersCard : Claim7 := { stood := { row := textfnNumbersRow, standIns := [], harness := (true, "fb422c23d178b6475010002bfb515a92d3877c3041afe9723204b5a82e6988f3"), looks := false }, kinds := [], alts := [], laidByText := true, laidKinds := [.data, .pinned], laidTests := true, laidLooks := .later }
def TextfnNumbersCardSaid : Prop := Claim7.holds Tryz.pinned (.plain (OpenSpec.ofChange textfnNumbersSpec)) textfnNumbersCard

/-- THE TIED CARD OF 'wainwrightlaw18.TextfnLaws'. -/
def textfnLawsCard : Claim7 := { stood := { row := textfnLawsRow, standIns := [], harness := (true, "fb422c23d178b6475010002bfb515a92d3877c3041afe9723204b5a82e6988f3"), looks := false }, kinds := [], alts := [], laidByText := true, laidKinds := [.data, .pinned], laidTests := true, laidLooks := .later }
def TextfnLawsCardSaid : Prop := Claim7.holds Tryz.pinned (.plain (OpenSpec.ofChange textfnLawsSpec)) textfnLawsCard

/-- THE TIED CARD OF 'wainwrightlaw18.TextfnForms'. -/
def textfnFormsCard : Claim7 := { stood := { row := textfnFormsRow, standIns := [], harness := (true, "fb422c23d178b6475010002bfb515a92d3877c3041afe9723204b5a82e6988f3"), looks := false }, kinds := [], alts := [], laidByText := true, laidKinds := [.data, .pinned], laidTests := true, laidLooks := .later }
def TextfnFormsCardSaid : Prop := Claim7.holds Tryz.pinned (.plain (OpenSpec.ofChange textfnFormsSpec)) textfnFormsCard

/-- THE TIED CARD OF 'wainwrightlaw18.TextfnSubst'. -/
def textfnSubstCard : Claim7 := { stood := { row := textfnSubstRow, standIns := [], harness := (true, "fb422c23d178b6475010002bfb515a92d3877c3041afe9723204b5a82e6988f3"), looks := false }, kinds := [], alts := [], laidByText := true, laidKinds := [.data, .pinned], laidTests := true, laidLooks := .later }
def TextfnSubstCardSaid : Prop := Claim7.holds Tryz.pinned (.plain (OpenSpec.ofChange textfnSubstSpec)) textfnSubstCard

/-- THE SECOND FORM's CARD OF 'wainwrightlaw18.TextfnAll'. -/
def textfnAllUptoCard : Claim7 := { stood := { row := textfnAllUptoRow, standIns := [], harness := (true, "fb422c23d178b6475010002bfb515a92d3877c3041afe9723204b5a82e6988f3"), looks := false }, kinds := [], alts := [], laidByText := true, laidKinds := [.data, .pinned], laidTests := true, laidLooks := .later }
def TextfnAllUptoCardSaid : Prop := Claim7.holds Tryz.pinned (.plain (OpenSpec.upto textfnAllSpec)) textfnAllUptoCard

/-- THE SECOND FORM's CARD OF 'wainwrightlaw18.TextfnNumbers'. -/
def textfnNumbersUptoCard : Claim7 := { stood := { row := textfnNumbersUptoRow, standIns := [], harness := (true, "fb422c23d178b6475010002bfb515a92d3877c3041afe9723204b5a82e6988f3"), looks := false }, kinds := [], alts := [], laidByText := true, laidKinds := [.data, .pinned], laidTests := true, laidLooks := .later }
def TextfnNumbersUptoCardSaid : Prop := Claim7.holds Tryz.pinned (.plain (OpenSpec.upto textfnNumbersSpec)) textfnNumbersUptoCard

/-- THE SECOND FORM's CARD OF 'wainwrightlaw18.TextfnLaws'. -/
def textfnLawsUptoCard : Claim7 := { stood := { row := textfnLawsUptoRow, standIns := [], harness := (true, "fb422c23d178b6475010002bfb515a92d3877c3041afe9723204b5a82e6988f3"), looks := false }, kinds := [], alts := [], laidByText := true, laidKinds := [.data, .pinned], laidTests := true, laidLooks := .later }
def TextfnLawsUptoCardSaid : Prop := Claim7.holds Tryz.pinned (.plain (OpenSpec.upto textfnLawsSpec)) textfnLawsUptoCard

/-- THE SECOND FORM's CARD OF 'wainwrightlaw18.TextfnForms'. -/
def textfnFormsUptoCard : Claim7 := { stood := { row := textfnFormsUptoRow, standIns := [], harness := (true, "fb422c23d178b6475010002bfb515a92d3877c3041afe9723204b5a82e6988f3"), looks := false }, kinds := [], alts := [], laidByText := true, laidKinds := [.data, .pinned], laidTests := true, laidLooks := .later }
def TextfnFormsUptoCardSaid : Prop := Claim7.holds Tryz.pinned (.plain (OpenSpec.upto textfnFormsSpec)) textfnFormsUptoCard

/-- THE SECOND FORM's CARD OF 'wainwrightlaw18.TextfnSubst'. -/
def textfnSubstUptoCard : Claim7 := { stood := { row := textfnSubstUptoRow, standIns := [], harness := (true, "fb422c23d178b6475010002bfb515a92d3877c3041afe9723204b5a82e6988f3"), looks := false }, kinds := [], alts := [], laidByText := true, laidKinds := [.data, .pinned], laidTests := true, laidLooks := .later }
def TextfnSubstUptoCardSaid : Prop := Claim7.holds Tryz.pinned (.plain (OpenSpec.upto textfnSubstSpec)) textfnSubstUptoCard
end Rows
end Go.Proofs.YtcclfjddakonoaaGreatDoor
