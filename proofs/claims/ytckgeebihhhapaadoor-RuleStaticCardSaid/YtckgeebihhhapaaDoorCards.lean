/-
  DERIVED. GIVEN WITH THE SEED: THE CARDS: each row of YtckgeebihhhapaaDoorRows.lean that lists a variable, with what it lists TIED to the program's text (the seventh form; the later family's looks); each row that meets fmt, with fmt's text TOLD by the authors' own Lean function (tested against real Go, not proved from fmt's source: count such statements apart). THE CARD IS WHAT COUNTS. Prove the row's statement (the work); the ties are given (YtckgeebihhhapaaDoorTie.lean); close each card by the builder's one call (the guide's Derived/Test/ToyasCard.lean, 'card_holds'). Laid BY PROGRAM, IN A SANDBOX (cutbox-door.mjs). By AI agents, Wed Nov 11 2026. No macro, syntax, notation, axiom, sorry.
-/
import Derived.Test.YtckgeebihhhapaaDoorRows
import GoSem.ClaimSeven
namespace Go.Proofs.YtckgeebihhhapaaDoor
namespace Rows

/-- THE TIED CARD OF 'wainwrightlaw25.RuleReads'. -/
def ruleReadsCard : Claim7 := { stood := { row := ruleReadsRow, standIns := [], harness := (true, "3751a4b037cc99c4456900a390cb87d382e5ec7665ccbe8e2bc2a68fc0a6e8ab"), looks := false }, kinds := [], alts := [], laidByText := true, laidKinds := [.data, .pinned], laidTests := true, laidLooks := .later }
def RuleReadsCardSaid : Prop := Claim7.holds Tryd.pinned (.plain (OpenSpec.ofChange ruleReadsSpec)) ruleReadsCard

/-- THE TIED CARD OF 'wainwrightlaw25.RuleStatic'. -/
def ruleStaticCard : Claim7 := { stood := { row := ruleStaticRow, standIns := [], harness := (true, "3751a4b037cc99c4456900a390cb87d382e5ec7665ccbe8e2bc2a68fc0a6e8ab"), looks := false }, kinds := [], alts := [], laidByText := true, laidKinds := [.data, .pinned], laidTests := true, laidLooks := .later }
def RuleStaticCardSaid : Prop := Claim7.holds Tryd.pinned (.plain (OpenSpec.ofChange ruleStaticSpec)) ruleStaticCard

/-- THE TIED CARD OF 'wainwrightlaw25.RulePlain'. -/
def rulePlainCard : Claim7 := { stood := { row := rulePlainRow, standIns := [], harness := (true, "3751a4b037cc99c4456900a390cb87d382e5ec7665ccbe8e2bc2a68fc0a6e8ab"), looks := false }, kinds := [], alts := [], laidByText := true, laidKinds := [.data, .pinned], laidTests := true, laidLooks := .later }
def RulePlainCardSaid : Prop := Claim7.holds Tryd.pinned (.plain (OpenSpec.ofChange rulePlainSpec)) rulePlainCard

/-- THE TIED CARD OF 'wainwrightlaw25.RuleWrong'. -/
def ruleWrongCard : Claim7 := { stood := { row := ruleWrongRow, standIns := [], harness := (true, "3751a4b037cc99c4456900a390cb87d382e5ec7665ccbe8e2bc2a68fc0a6e8ab"), looks := false }, kinds := [], alts := [], laidByText := true, laidKinds := [.data, .pinned], laidTests := true, laidLooks := .later }
def RuleWrongCardSaid : Prop := Claim7.holds Tryd.pinned (.plain (OpenSpec.ofChange ruleWrongSpec)) ruleWrongCard

/-- THE TIED CARD OF 'wainwrightlaw23.CondReads'. -/
def condReadsCard : Claim7 := { stood := { row := condReadsRow, standIns := [], harness := (true, "3751a4b037cc99c4456900a390cb87d382e5ec7665ccbe8e2bc2a68fc0a6e8ab"), looks := false }, kinds := [], alts := [], laidByText := true, laidKinds := [.data, .pinned], laidTests := true, laidLooks := .later }
def CondReadsCardSaid : Prop := Claim7.holds Tryd.pinned (.plain (OpenSpec.ofChange condReadsSpec)) condReadsCard

/-- THE TIED CARD OF 'wainwrightlaw23.CondSides'. -/
def condSidesCard : Claim7 := { stood := { row := condSidesRow, standIns := [], harness := (true, "3751a4b037cc99c4456900a390cb87d382e5ec7665ccbe8e2bc2a68fc0a6e8ab"), looks := false }, kinds := [], alts := [], laidByText := true, laidKinds := [.data, .pinned], laidTests := true, laidLooks := .later }
def CondSidesCardSaid : Prop := Claim7.holds Tryd.pinned (.plain (OpenSpec.ofChange condSidesSpec)) condSidesCard

/-- THE TIED CARD OF 'wainwrightlaw23.CondWrong'. -/
def condWrongCard : Claim7 := { stood := { row := condWrongRow, standIns := [], harness := (true, "3751a4b037cc99c4456900a390cb87d382e5ec7665ccbe8e2bc2a68fc0a6e8ab"), looks := false }, kinds := [], alts := [], laidByText := true, laidKinds := [.data, .pinned], laidTests := true, laidLooks := .later }
def CondWrongCardSaid : Prop := Claim7.holds Tryd.pinned (.plain (OpenSpec.ofChange condWrongSpec)) condWrongCard

/-- THE TIED CARD OF 'wainwrightlaw23.CondPiles'. -/
def condPilesCard : Claim7 := { stood := { row := condPilesRow, standIns := [], harness := (true, "3751a4b037cc99c4456900a390cb87d382e5ec7665ccbe8e2bc2a68fc0a6e8ab"), looks := false }, kinds := [], alts := [], laidByText := true, laidKinds := [.data, .pinned], laidTests := true, laidLooks := .later }
def CondPilesCardSaid : Prop := Claim7.holds Tryd.pinned (.plain (OpenSpec.ofChange condPilesSpec)) condPilesCard

/-- THE TIED CARD OF 'wainwrightlaw23.CondOne'. -/
def condOneCard : Claim7 := { stood := { row := condOneRow, standIns := [], harness := (true, "3751a4b037cc99c4456900a390cb87d382e5ec7665ccbe8e2bc2a68fc0a6e8ab"), looks := false }, kinds := [], alts := [], laidByText := true, laidKinds := [.data, .pinned], laidTests := true, laidLooks := .later }
def CondOneCardSaid : Prop := Claim7.holds Tryd.pinned (.plain (OpenSpec.ofChange condOneSpec)) condOneCard

/-- THE SECOND FORM's CARD OF 'wainwrightlaw25.RuleReads'. -/
def ruleReadsUptoCard : Claim7 := { stood := { row := ruleReadsUptoRow, standIns := [], harness := (true, "3751a4b037cc99c4456900a390cb87d382e5ec7665ccbe8e2bc2a68fc0a6e8ab"), looks := false }, kinds := [], alts := [], laidByText := true, laidKinds := [.data, .pinned], laidTests := true, laidLooks := .later }
def RuleReadsUptoCardSaid : Prop := Claim7.holds Tryd.pinned (.plain (OpenSpec.upto ruleReadsSpec)) ruleReadsUptoCard

/-- THE SECOND FORM's CARD OF 'wainwrightlaw25.RuleStatic'. -/
def ruleStaticUptoCard : Claim7 := { stood := { row := ruleStaticUptoRow, standIns := [], harness := (true, "3751a4b037cc99c4456900a390cb87d382e5ec7665ccbe8e2bc2a68fc0a6e8ab"), looks := false }, kinds := [], alts := [], laidByText := true, laidKinds := [.data, .pinned], laidTests := true, laidLooks := .later }
def RuleStaticUptoCardSaid : Prop := Claim7.holds Tryd.pinned (.plain (OpenSpec.upto ruleStaticSpec)) ruleStaticUptoCard

/-- THE SECOND FORM's CARD OF 'wainwrightlaw25.RulePlain'. -/
def rulePlainUptoCard : Claim7 := { stood := { row := rulePlainUptoRow, standIns := [], harness := (true, "3751a4b037cc99c4456900a390cb87d382e5ec7665ccbe8e2bc2a68fc0a6e8ab"), looks := false }, kinds := [], alts := [], laidByText := true, laidKinds := [.data, .pinned], laidTests := true, laidLooks := .later }
def RulePlainUptoCardSaid : Prop := Claim7.holds Tryd.pinned (.plain (OpenSpec.upto rulePlainSpec)) rulePlainUptoCard

/-- THE SECOND FORM's CARD OF 'wainwrightlaw25.RuleWrong'. -/
def ruleWrongUptoCard : Claim7 := { stood := { row := ruleWrongUptoRow, standIns := [], harness := (true, "3751a4b037cc99c4456900a390cb87d382e5ec7665ccbe8e2bc2a68fc0a6e8ab"), looks := false }, kinds := [], alts := [], laidByText := true, laidKinds := [.data, .pinned], laidTests := true, laidLooks := .later }
def RuleWrongUptoCardSaid : Prop := Claim7.holds Tryd.pinned (.plain (OpenSpec.upto ruleWrongSpec)) ruleWrongUptoCard

/-- THE SECOND FORM's CARD OF 'wainwrightlaw23.CondReads'. -/
def condReadsUptoCard : Claim7 := { stood := { row := condReadsUptoRow, standIns := [], harness := (true, "3751a4b037cc99c4456900a390cb87d382e5ec7665ccbe8e2bc2a68fc0a6e8ab"), looks := false }, kinds := [], alts := [], laidByText := true, laidKinds := [.data, .pinned], laidTests := true, laidLooks := .later }
def CondReadsUptoCardSaid : Prop := Claim7.holds Tryd.pinned (.plain (OpenSpec.upto condReadsSpec)) condReadsUptoCard

/-- THE SECOND FORM's CARD OF 'wainwrightlaw23.CondSides'. -/
def condSidesUptoCard : Claim7 := { stood := { row := condSidesUptoRow, standIns := [], harness := (true, "3751a4b037cc99c4456900a390cb87d382e5ec7665ccbe8e2bc2a68fc0a6e8ab"), looks := false }, kinds := [], alts := [], laidByText := true, laidKinds := [.data, .pinned], laidTests := true, laidLooks := .later }
def CondSidesUptoCardSaid : Prop := Claim7.holds Tryd.pinned (.plain (OpenSpec.upto condSidesSpec)) condSidesUptoCard

/-- THE SECOND FORM's CARD OF 'wainwrightlaw23.CondWrong'. -/
def condWrongUptoCard : Claim7 := { stood := { row := condWrongUptoRow, standIns := [], harness := (true, "3751a4b037cc99c4456900a390cb87d382e5ec7665ccbe8e2bc2a68fc0a6e8ab"), looks := false }, kinds := [], alts := [], laidByText := true, laidKinds := [.data, .pinned], laidTests := true, laidLooks := .later }
def CondWrongUptoCardSaid : Prop := Claim7.holds Tryd.pinned (.plain (OpenSpec.upto condWrongSpec)) condWrongUptoCard

/-- THE SECOND FORM's CARD OF 'wainwrightlaw23.CondPiles'. -/
def condPilesUptoCard : Claim7 := { stood := { row := condPilesUptoRow, standIns := [], harness := (true, "3751a4b037cc99c4456900a390cb87d382e5ec7665ccbe8e2bc2a68fc0a6e8ab"), looks := false }, kinds := [], alts := [], laidByText := true, laidKinds := [.data, .pinned], laidTests := true, laidLooks := .later }
def CondPilesUptoCardSaid : Prop := Claim7.holds Tryd.pinned (.plain (OpenSpec.upto condPilesSpec)) condPilesUptoCard

/-- THE SECOND FORM's CARD OF 'wainwrightlaw23.CondOne'. -/
def condOneUptoCard : Claim7 := { stood := { row := condOneUptoRow, standIns := [], harness := (true, "3751a4b037cc99c4456900a390cb87d382e5ec7665ccbe8e2bc2a68fc0a6e8ab"), looks := false }, kinds := [], alts := [], laidByText := true, laidKinds := [.data, .pinned], laidTests := true, laidLooks := .later }
def CondOneUptoCardSaid : Prop := Claim7.holds Tryd.pinned (.plain (OpenSpec.upto condOneSpec)) condOneUptoCard
end Rows
end Go.Proofs.YtckgeebihhhapaaDoor
