/-
  DERIVED. GIVEN WITH THE SEED: THE CARDS: each row of YtbnejfgdojdbdaaDoorRows.lean that lists a variable, with what it lists TIED to the program's text (the seventh form; the later family's looks); each row that meets fmt, with fmt's text TOLD by the authors' own Lean function (tested against real Go, not proved from fmt's source: count such statements apart). THE CARD IS WHAT COUNTS. Prove the row's statement (the work); the ties are given (YtbnejfgdojdbdaaDoorTie.lean); close each card by the builder's one call (the guide's Derived/Test/ToyasCard.lean, 'card_holds'). Laid BY PROGRAM, IN A SANDBOX (cutbox-door.mjs). By AI agents, Wed Nov 11 2026. No macro, syntax, notation, axiom, sorry.
-/
import Derived.Test.YtbnejfgdojdbdaaDoorRows
import GoSem.ClaimSeven
namespace Go.Proofs.YtbnejfgdojdbdaaDoor
namespace Rows

/-- THE TIED CARD OF 'wainwrightlaw07.WildStars'. -/
def wildStarsCard : Claim7 := { stood := { row := wildStarsRow, standIns := [], harness := (true, "73e4fdb05ba4bc77c93d4ea2b84a38aa99fab8b2f3fdd6fa05daf3ad40772bfb"), looks := false }, kinds := [], alts := [], laidByText := true, laidKinds := [.data, .pinned], laidTests := true, laidLooks := .later }
def WildStarsCardSaid : Prop := Claim7.holds Tryd.pinned (.plain (OpenSpec.ofChange wildStarsSpec)) wildStarsCard

/-- THE TIED CARD OF 'wainwrightlaw07.WildQuoted'. -/
def wildQuotedCard : Claim7 := { stood := { row := wildQuotedRow, standIns := [], harness := (true, "73e4fdb05ba4bc77c93d4ea2b84a38aa99fab8b2f3fdd6fa05daf3ad40772bfb"), looks := false }, kinds := [], alts := [], laidByText := true, laidKinds := [.data, .pinned], laidTests := true, laidLooks := .later }
def WildQuotedCardSaid : Prop := Claim7.holds Tryd.pinned (.plain (OpenSpec.ofChange wildQuotedSpec)) wildQuotedCard

/-- THE SECOND FORM's CARD OF 'wainwrightlaw07.WildStars'. -/
def wildStarsUptoCard : Claim7 := { stood := { row := wildStarsUptoRow, standIns := [], harness := (true, "73e4fdb05ba4bc77c93d4ea2b84a38aa99fab8b2f3fdd6fa05daf3ad40772bfb"), looks := false }, kinds := [], alts := [], laidByText := true, laidKinds := [.data, .pinned], laidTests := true, laidLooks := .later }
def WildStarsUptoCardSaid : Prop := Claim7.holds Tryd.pinned (.plain (OpenSpec.upto wildStarsSpec)) wildStarsUptoCard

/-- THE SECOND FORM's CARD OF 'wainwrightlaw07.WildQuoted'. -/
def wildQuotedUptoCard : Claim7 := { stood := { row := wildQuotedUptoRow, standIns := [], harness := (true, "73e4fdb05ba4bc77c93d4ea2b84a38aa99fab8b2f3fdd6fa05daf3ad40772bfb"), looks := false }, kinds := [], alts := [], laidByText := true, laidKinds := [.data, .pinned], laidTests := true, laidLooks := .later }
def WildQuotedUptoCardSaid : Prop := Claim7.holds Tryd.pinned (.plain (OpenSpec.upto wildQuotedSpec)) wildQuotedUptoCard
end Rows
end Go.Proofs.YtbnejfgdojdbdaaDoor
