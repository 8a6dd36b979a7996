/-
  DERIVED. GIVEN WITH THE SEED: THE CARDS: each row of YtafngfcfinligaaDoorRows.lean that lists a variable, with what it lists TIED to the program's text (the seventh form; the later family's looks); each row that meets fmt, with fmt's text TOLD by the authors' own Lean function (tested against real Go, not proved from fmt's source: count such statements apart). THE CARD IS WHAT COUNTS. Prove the row's statement (the work); the ties are given (YtafngfcfinligaaDoorTie.lean); close each card by the builder's one call (the guide's Derived/Test/ToyasCard.lean, 'card_holds'). Laid BY PROGRAM, IN A SANDBOX (cutbox-door.mjs). By AI agents, Wed Nov 11 2026. No macro, syntax, notation, axiom, sorry.
-/
import Derived.Test.YtafngfcfinligaaDoorRows
import GoSem.ClaimSeven
namespace Go.Proofs.YtafngfcfinligaaDoor
namespace Rows

/-- THE TIED CARD OF 'wainwrightlaw24.AssignReads'. -/
def assignReadsCard : Claim7 := { stood := { row := assignReadsRow, standIns := [], harness := (true, "68af8ba69fcc682a855e5f4d22dba1fdd3352580dd126fcc6144dfe4b8a93517"), looks := false }, kinds := [], alts := [], laidByText := true, laidKinds := [.data, .pinned], laidTests := true, laidLooks := .later }
def AssignReadsCardSaid : Prop := Claim7.holds Tryd.pinned (.plain (OpenSpec.ofChange assignReadsSpec)) assignReadsCard

/-- THE TIED CARD OF 'wainwrightlaw24.AssignBack'. -/
def assignBackCard : Claim7 := { stood := { row := assignBackRow, standIns := [], harness := (true, "68af8ba69fcc682a855e5f4d22dba1fdd3352580dd126fcc6144dfe4b8a93517"), looks := false }, kinds := [], alts := [], laidByText := true, laidKinds := [.data, .pinned], laidTests := true, laidLooks := .later }
def AssignBackCardSaid : Prop := Claim7.holds Tryd.pinned (.plain (OpenSpec.ofChange assignBackSpec)) assignBackCard

/-- THE TIED CARD OF 'wainwrightlaw24.AssignOutside'. -/
def assignOutsideCard : Claim7 := { stood := { row := assignOutsideRow, standIns := [], harness := (true, "68af8ba69fcc682a855e5f4d22dba1fdd3352580dd126fcc6144dfe4b8a93517"), looks := false }, kinds := [], alts := [], laidByText := true, laidKinds := [.data, .pinned], laidTests := true, laidLooks := .later }
def AssignOutsideCardSaid : Prop := Claim7.holds Tryd.pinned (.plain (OpenSpec.ofChange assignOutsideSpec)) assignOutsideCard

/-- THE TIED CARD OF 'wainwrightlaw01.WordsAll'. -/
def wordsAllCard : Claim7 := { stood := { row := wordsAllRow, standIns := [], harness := (true, "68af8ba69fcc682a855e5f4d22dba1fdd3352580dd126fcc6144dfe4b8a93517"), looks := false }, kinds := [], alts := [], laidByText := true, laidKinds := [.data, .pinned], laidTests := true, laidLooks := .later }
def WordsAllCardSaid : Prop := Claim7.holds Tryd.pinned (.plain (OpenSpec.ofChange wordsAllSpec)) wordsAllCard

/-- THE TIED CARD OF 'wainwrightlaw01.WordsBack'. -/
def wordsBackCard : Claim7 := { stood := { row := wordsBackRow, standIns := [], harness := (true, "68af8ba69fcc682a855e5f4d22dba1fdd3352580dd126fcc6144dfe4b8a93517"), looks := false }, kinds := [], alts := [], laidByText := true, laidKinds := [.data, .pinned], laidTests := true, laidLooks := .later }
def WordsBackCardSaid : Prop := Claim7.holds Tryd.pinned (.plain (OpenSpec.ofChange wordsBackSpec)) wordsBackCard

/-- THE TIED CARD OF 'wainwrightlaw01.WordsMany'. -/
def wordsManyCard : Claim7 := { stood := { row := wordsManyRow, standIns := [], harness := (true, "68af8ba69fcc682a855e5f4d22dba1fdd3352580dd126fcc6144dfe4b8a93517"), looks := false }, kinds := [], alts := [], laidByText := true, laidKinds := [.data, .pinned], laidTests := true, laidLooks := .later }
def WordsManyCardSaid : Prop := Claim7.holds Tryd.pinned (.plain (OpenSpec.ofChange wordsManySpec)) wordsManyCard

/-- THE TIED CARD OF 'wainwrightlaw01.WordsOther'. -/
def wordsOtherCard : Claim7 := { stood := { row := wordsOtherRow, standIns := [], harness := (true, "68af8ba69fcc682a855e5f4d22dba1fdd3352580dd126fcc6144dfe4b8a93517"), looks := false }, kinds := [], alts := [], laidByText := true, laidKinds := [.data, .pinned], laidTests := true, laidLooks := .later }
def WordsOtherCardSaid : Prop := Claim7.holds Tryd.pinned (.plain (OpenSpec.ofChange wordsOtherSpec)) wordsOtherCard

/-- THE TIED CARD OF 'wainwrightlaw08.LinesAll'. -/
def linesAllCard : Claim7 := { stood := { row := linesAllRow, standIns := [], harness := (true, "68af8ba69fcc682a855e5f4d22dba1fdd3352580dd126fcc6144dfe4b8a93517"), looks := false }, kinds := [], alts := [], laidByText := true, laidKinds := [.data, .pinned], laidTests := true, laidLooks := .later }
def LinesAllCardSaid : Prop := Claim7.holds Tryd.pinned (.plain (OpenSpec.ofChange linesAllSpec)) linesAllCard

/-- THE TIED CARD OF 'wainwrightlaw08.LinesPlain'. -/
def linesPlainCard : Claim7 := { stood := { row := linesPlainRow, standIns := [], harness := (true, "68af8ba69fcc682a855e5f4d22dba1fdd3352580dd126fcc6144dfe4b8a93517"), looks := false }, kinds := [], alts := [], laidByText := true, laidKinds := [.data, .pinned], laidTests := true, laidLooks := .later }
def LinesPlainCardSaid : Prop := Claim7.holds Tryd.pinned (.plain (OpenSpec.ofChange linesPlainSpec)) linesPlainCard

/-- THE TIED CARD OF 'wainwrightlaw08.LinesBare'. -/
def linesBareCard : Claim7 := { stood := { row := linesBareRow, standIns := [], harness := (true, "68af8ba69fcc682a855e5f4d22dba1fdd3352580dd126fcc6144dfe4b8a93517"), looks := false }, kinds := [], alts := [], laidByText := true, laidKinds := [.data, .pinned], laidTests := true, laidLooks := .later }
def LinesBareCardSaid : Prop := Claim7.holds Tryd.pinned (.plain (OpenSpec.ofChange linesBareSpec)) linesBareCard

/-- THE TIED CARD OF 'wainwrightlaw08.LinesRecipes'. -/
def linesRecipesCard : Claim7 := { stood := { row := linesRecipesRow, standIns := [], harness := (true, "68af8ba69fcc682a855e5f4d22dba1fdd3352580dd126fcc6144dfe4b8a93517"), looks := false }, kinds := [], alts := [], laidByText := true, laidKinds := [.data, .pinned], laidTests := true, laidLooks := .later }
def LinesRecipesCardSaid : Prop := Claim7.holds Tryd.pinned (.plain (OpenSpec.ofChange linesRecipesSpec)) linesRecipesCard

/-- THE SECOND FORM's CARD OF 'wainwrightlaw24.AssignReads'. -/
def assignReadsUptoCard : Claim7 := { stood := { row := assignReadsUptoRow, standIns := [], harness := (true, "68af8ba69fcc682a855e5f4d22dba1fdd3352580dd126fcc6144dfe4b8a93517"), looks := false }, kinds := [], alts := [], laidByText := true, laidKinds := [.data, .pinned], laidTests := true, laidLooks := .later }
def AssignReadsUptoCardSaid : Prop := Claim7.holds Tryd.pinned (.plain (OpenSpec.upto assignReadsSpec)) assignReadsUptoCard

/-- THE SECOND FORM's CARD OF 'wainwrightlaw24.AssignBack'. -/
def assignBackUptoCard : Claim7 := { stood := { row := assignBackUptoRow, standIns := [], harness := (true, "68af8ba69fcc682a855e5f4d22dba1fdd3352580dd126fcc6144dfe4b8a93517"), looks := false }, kinds := [], alts := [], laidByText := true, laidKinds := [.data, .pinned], laidTests := true, laidLooks := .later }
def AssignBackUptoCardSaid : Prop := Claim7.holds Tryd.pinned (.plain (OpenSpec.upto assignBackSpec)) assignBackUptoCard

/-- THE SECOND FORM's CARD OF 'wainwrightlaw24.AssignOutside'. -/
def assignOutsideUptoCard : Claim7 := { stood := { row := assignOutsideUptoRow, standIns := [], harness := (true, "68af8ba69fcc682a855e5f4d22dba1fdd3352580dd126fcc6144dfe4b8a93517"), looks := false }, kinds := [], alts := [], laidByText := true, laidKinds := [.data, .pinned], laidTests := true, laidLooks := .later }
def AssignOutsideUptoCardSaid : Prop := Claim7.holds Tryd.pinned (.plain (OpenSpec.upto assignOutsideSpec)) assignOutsideUptoCard

/-- THE SECOND FORM's CARD OF 'wainwrightlaw01.WordsAll'. -/
def wordsAllUptoCard : Claim7 := { stood := { row := wordsAllUptoRow, standIns := [], harness := (true, "68af8ba69fcc682a855e5f4d22dba1fdd3352580dd126fcc6144dfe4b8a93517"), looks := false }, kinds := [], alts := [], laidByText := true, laidKinds := [.data, .pinned], laidTests := true, laidLooks := .later }
def WordsAllUptoCardSaid : Prop := Claim7.holds Tryd.pinned (.plain (OpenSpec.upto wordsAllSpec)) wordsAllUptoCard

/-- THE SECOND FORM's CARD OF 'wainwrightlaw01.WordsBack'. -/
def wordsBackUptoCard : Claim7 := { stood := { row := wordsBackUptoRow, standIns := [], harness := (true, "68af8ba69fcc682a855e5f4d22dba1fdd3352580dd126fcc6144dfe4b8a93517"), looks := false }, kinds := [], alts := [], laidByText := true, laidKinds := [.data, .pinned], laidTests := true, laidLooks := .later }
def WordsBackUptoCardSaid : Prop := Claim7.holds Tryd.pinned (.plain (OpenSpec.upto wordsBackSpec)) wordsBackUptoCard

/-- THE SECOND FORM's CARD OF 'wainwrightlaw01.WordsMany'. -/
def wordsManyUptoCard : Claim7 := { stood := { row := wordsManyUptoRow, standIns := [], harness := (true, "68af8ba69fcc682a855e5f4d22dba1fdd3352580dd126fcc6144dfe4b8a93517"), looks := false }, kinds := [], alts := [], laidByText := true, laidKinds := [.data, .pinned], laidTests := true, laidLooks := .later }
def WordsManyUptoCardSaid : Prop := Claim7.holds Tryd.pinned (.plain (OpenSpec.upto wordsManySpec)) wordsManyUptoCard

/-- THE SECOND FORM's CARD OF 'wainwrightlaw01.WordsOther'. -/
def wordsOtherUptoCard : Claim7 := { stood := { row := wordsOtherUptoRow, standIns := [], harness := (true, "68af8ba69fcc682a855e5f4d22dba1fdd3352580dd126fcc6144dfe4b8a93517"), looks := false }, kinds := [], alts := [], laidByText := true, laidKinds := [.data, .pinned], laidTests := true, laidLooks := .later }
def WordsOtherUptoCardSaid : Prop := Claim7.holds Tryd.pinned (.plain (OpenSpec.upto wordsOtherSpec)) wordsOtherUptoCard

/-- THE SECOND FORM's CARD OF 'wainwrightlaw08.LinesAll'. -/
def linesAllUptoCard : Claim7 := { stood := { row := linesAllUptoRow, standIns := [], harness := (true, "68af8ba69fcc682a855e5f4d22dba1fdd3352580dd126fcc6144dfe4b8a93517"), looks := false }, kinds := [], alts := [], laidByText := true, laidKinds := [.data, .pinned], laidTests := true, laidLooks := .later }
def LinesAllUptoCardSaid : Prop := Claim7.holds Tryd.pinned (.plain (OpenSpec.upto linesAllSpec)) linesAllUptoCard

/-- THE SECOND FORM's CARD OF 'wainwrightlaw08.LinesPlain'. -/
def linesPlainUptoCard : Claim7 := { stood := { row := linesPlainUptoRow, standIns := [], harness := (true, "68af8ba69fcc682a855e5f4d22dba1fdd3352580dd126fcc6144dfe4b8a93517"), looks := false }, kinds := [], alts := [], laidByText := true, laidKinds := [.data, .pinned], laidTests := true, laidLooks := .later }
def LinesPlainUptoCardSaid : Prop := Claim7.holds Tryd.pinned (.plain (OpenSpec.upto linesPlainSpec)) linesPlainUptoCard

/-- THE SECOND FORM's CARD OF 'wainwrightlaw08.LinesBare'. -/
def linesBareUptoCard : Claim7 := { stood := { row := linesBareUptoRow, standIns := [], harness := (true, "68af8ba69fcc682a855e5f4d22dba1fdd3352580dd126fcc6144dfe4b8a93517"), looks := false }, kinds := [], alts := [], laidByText := true, laidKinds := [.data, .pinned], laidTests := true, laidLooks := .later }
def LinesBareUptoCardSaid : Prop := Claim7.holds Tryd.pinned (.plain (OpenSpec.upto linesBareSpec)) linesBareUptoCard

/-- THE SECOND FORM's CARD OF 'wainwrightlaw08.LinesRecipes'. -/
def linesRecipesUptoCard : Claim7 := { stood := { row := linesRecipesUptoRow, standIns := [], harness := (true, "68af8ba69fcc682a855e5f4d22dba1fdd3352580dd126fcc6144dfe4b8a93517"), looks := false }, kinds := [], alts := [], laidByText := true, laidKinds := [.data, .pinned], laidTests := true, laidLooks := .later }
def LinesRecipesUptoCardSaid : Prop := Claim7.holds Tryd.pinned (.plain (OpenSpec.upto linesRecipesSpec)) linesRecipesUptoCard
end Rows
end Go.Proofs.YtafngfcfinligaaDoor
