/-
  DERIVED. GIVEN WITH THE SEED: THE CARDS: each row of YtgmjkciinnjpbaaDoorRows.lean that lists a variable, with what it lists TIED to the program's text (the seventh form; the later family's looks); each row that meets fmt, with fmt's text TOLD by the authors' own Lean function (tested against real Go, not proved from fmt's source: count such statements apart). THE CARD IS WHAT COUNTS. Prove the row's statement (the work); the ties are given (YtgmjkciinnjpbaaDoorTie.lean); close each card by the builder's one call (the guide's Derived/Test/ToyasCard.lean, 'card_holds'). Laid BY PROGRAM, IN A SANDBOX (cutbox-door.mjs). By AI agents, Wed Nov 11 2026. No macro, syntax, notation, axiom, sorry.
-/
import Derived.Test.YtgmjkciinnjpbaaDoorRows
import GoSem.ClaimSeven
namespace Go.Proofs.YtgmjkciinnjpbaaDoor
namespace Rows

/-- THE TIED CARD OF 'wainwrightlaw06.VfsAll'. -/
def vfsAllCard : Claim7 := { stood := { row := vfsAllRow, standIns := [], harness := (true, "d3d25584cb0a5ca54d29ad7e4994f16847ebed3f93af20e2ecaec52149c9014d"), looks := false }, kinds := [], alts := [], laidByText := true, laidKinds := [.data, .pinned], laidTests := true, laidLooks := .later }
def VfsAllCardSaid : Prop := Claim7.holds Tryd.pinned (.plain (OpenSpec.ofChange vfsAllSpec)) vfsAllCard

/-- THE TIED CARD OF 'wainwrightlaw06.VfsFirst'. -/
def vfsFirstCard : Claim7 := { stood := { row := vfsFirstRow, standIns := [], harness := (true, "d3d25584cb0a5ca54d29ad7e4994f16847ebed3f93af20e2ecaec52149c9014d"), looks := false }, kinds := [], alts := [], laidByText := true, laidKinds := [.data, .pinned], laidTests := true, laidLooks := .later }
def VfsFirstCardSaid : Prop := Claim7.holds Tryd.pinned (.plain (OpenSpec.ofChange vfsFirstSpec)) vfsFirstCard

/-- THE TIED CARD OF 'wainwrightlaw06.VfsTrees'. -/
def vfsTreesCard : Claim7 := { stood := { row := vfsTreesRow, standIns := [], harness := (true, "d3d25584cb0a5ca54d29ad7e4994f16847ebed3f93af20e2ecaec52149c9014d"), looks := false }, kinds := [], alts := [], laidByText := true, laidKinds := [.data, .pinned], laidTests := true, laidLooks := .later }
def VfsTreesCardSaid : Prop := Claim7.holds Tryd.pinned (.plain (OpenSpec.ofChange vfsTreesSpec)) vfsTreesCard

/-- THE TIED CARD OF 'wainwrightlaw06.VfsMany'. -/
def vfsManyCard : Claim7 := { stood := { row := vfsManyRow, standIns := [], harness := (true, "d3d25584cb0a5ca54d29ad7e4994f16847ebed3f93af20e2ecaec52149c9014d"), looks := false }, kinds := [], alts := [], laidByText := true, laidKinds := [.data, .pinned], laidTests := true, laidLooks := .later }
def VfsManyCardSaid : Prop := Claim7.holds Tryd.pinned (.plain (OpenSpec.ofChange vfsManySpec)) vfsManyCard

/-- THE SECOND FORM's CARD OF 'wainwrightlaw06.VfsAll'. -/
def vfsAllUptoCard : Claim7 := { stood := { row := vfsAllUptoRow, standIns := [], harness := (true, "d3d25584cb0a5ca54d29ad7e4994f16847ebed3f93af20e2ecaec52149c9014d"), looks := false }, kinds := [], alts := [], laidByText := true, laidKinds := [.data, .pinned], laidTests := true, laidLooks := .later }
def VfsAllUptoCardSaid : Prop := Claim7.holds Tryd.pinned (.plain (OpenSpec.upto vfsAllSpec)) vfsAllUptoCard

/-- THE SECOND FORM's CARD OF 'wainwrightlaw06.VfsFirst'. -/
def vfsFirstUptoCard : Claim7 := { stood := { row := vfsFirstUptoRow, standIns := [], harness := (true, "d3d25584cb0a5ca54d29ad7e4994f16847ebed3f93af20e2ecaec52149c9014d"), looks := false }, kinds := [], alts := [], laidByText := true, laidKinds := [.data, .pinned], laidTests := true, laidLooks := .later }
def VfsFirstUptoCardSaid : Prop := Claim7.holds Tryd.pinned (.plain (OpenSpec.upto vfsFirstSpec)) vfsFirstUptoCard

/-- THE SECOND FORM's CARD OF 'wainwrightlaw06.VfsTrees'. -/
def vfsTreesUptoCard : Claim7 := { stood := { row := vfsTreesUptoRow, standIns := [], harness := (true, "d3d25584cb0a5ca54d29ad7e4994f16847ebed3f93af20e2ecaec52149c9014d"), looks := false }, kinds := [], alts := [], laidByText := true, laidKinds := [.data, .pinned], laidTests := true, laidLooks := .later }
def VfsTreesUptoCardSaid : Prop := Claim7.holds Tryd.pinned (.plain (OpenSpec.upto vfsTreesSpec)) vfsTreesUptoCard

/-- THE SECOND FORM's CARD OF 'wainwrightlaw06.VfsMany'. -/
def vfsManyUptoCard : Claim7 := { stood := { row := vfsManyUptoRow, standIns := [], harness := (true, "d3d25584cb0a5ca54d29ad7e4994f16847ebed3f93af20e2ecaec52149c9014d"), looks := false }, kinds := [], alts := [], laidByText := true, laidKinds := [.data, .pinned], laidTests := true, laidLooks := .later }
def VfsManyUptoCardSaid : Prop := Claim7.holds Tryd.pinned (.plain (OpenSpec.upto vfsManySpec)) vfsManyUptoCard
end Rows
end Go.Proofs.YtgmjkciinnjpbaaDoor
