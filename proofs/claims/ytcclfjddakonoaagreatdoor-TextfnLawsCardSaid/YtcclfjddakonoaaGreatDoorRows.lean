/-
  NARROWER THAN 'FOR EVERY INPUT', by the rows' own cells (each row's printed sentence says how): TextfnAll: laid · TextfnNumbers: laid · TextfnLaws: laid · TextfnForms: laid · TextfnSubst: laid.
  DERIVED. THE GIVEN ROWS OF THIS SEAT. 5 by the template 'for every input the law returns true; each argument reads behind the call as it read before'; 0 by the template 'total and deterministic' (their statements: YtcclfjddakonoaaGreatDoorTotals.lean).
  GIVEN WITH THE SEED: the statements are not yours to turn. If you find one false, say at which input.
  Laid BY PROGRAM, IN A SANDBOX (cutbox-rows.mjs): the forced cells as the released guide's own fill.sh prints them over the translation d8689f869ca1af71… (all of the seat's roots in one cut). By AI agents, Wed Nov 11 2026. No macro, syntax, notation, axiom, sorry.
-/
import Derived.Test.YtcclfjddakonoaaGreatDoorChecked
import GoSem.PinnedTables
import GoSem.Claim
import GoSem.ClaimJoined
import GoSem.ClaimMapViews
import Derived.JoinedTies
import Derived.KernelRfl
namespace Go.Proofs.YtcclfjddakonoaaGreatDoor
/- THE CELL 'sum', in the pinned program and in every row, IS THE sha256 OF THE DUMP (.gsa) THAT YtcclfjddakonoaaGreatDoorProg.lean LOADS. Nothing in Lean hashes anything: it is a label: what it is worth is what the hold of that sum in a sandbox is worth. -/
noncomputable def Tryz.pinned : Pinned := { name := "ytcclfjddakonoaagreatdoor", sum := "d8689f869ca1af71ee412ee1d684acc815e9c60595c9eaff09abb03c118895e2", checked := Tryz.checked }
namespace Rows
def none {H : Type} : Left H := { results := [], args := [] }

/- WHAT THE LISTED PACKAGE-LEVEL VARIABLES READ AS WHEN THE CALL BEGINS. Each datum BY PROGRAM (the guide's laid-datum.mjs) off the statement by which the dump's own 'gosem.cut.vars' lays the variable. In a bare row this is a premise. The card (YtcclfjddakonoaaGreatDoorCards.lean) ties it to the program's text. -/
def laid_unicode_utf8_acceptRanges {H : Type} : DataW H := .agg [.agg [.lit (.int .u8 128), .lit (.int .u8 191)], .agg [.lit (.int .u8 160), .lit (.int .u8 191)], .agg [.lit (.int .u8 128), .lit (.int .u8 159)], .agg [.lit (.int .u8 144), .lit (.int .u8 191)], .agg [.lit (.int .u8 128), .lit (.int .u8 143)], .agg [.lit (.int .u8 0), .lit (.int .u8 0)], .agg [.lit (.int .u8 0), .lit (.int .u8 0)], .agg [.lit (.int .u8 0), .lit (.int .u8 0)], .agg [.lit (.int .u8 0), .lit (.int .u8 0)], .agg [.lit (.int .u8 0), .lit (.int .u8 0)], .agg [.lit (.int .u8 0), .lit (.int .u8 0)], .agg [.lit (.int .u8 0), .lit (.int .u8 0)], .agg [.lit (.int .u8 0), .lit (.int .u8 0)], .agg [.lit (.int .u8 0), .lit (.int .u8 0)], .agg [.lit (.int .u8 0), .lit (.int .u8 0)], .agg [.lit (.int .u8 0), .lit (.int .u8 0)]]
/-- One of Go's own tables, pinned by name: the form's constant. -/
def laid_unicode_utf8_first : DataW Unit := Go.Pinned.utf8First

/-- 'wainwrightlaw18.TextfnAll': WHATEVER THE INPUT: true; the input reads as it did. -/
def textfnAllSpec : ChangeSpec := { name := "textfnAll", fn := fun _ => fun
  | [d1, d2, d3] => { results := [.lit (.bool true)], args := [d1, d2, d3] }
  | _ => none }
def textfnAllRow : OpenClaim := { program := "ytcclfjddakonoaagreatdoor", sum := "d8689f869ca1af71ee412ee1d684acc815e9c60595c9eaff09abb03c118895e2", func := "wainwright/wainwrightlaw18.TextfnAll", spec := "textfnAll", inPlace := ["internal/bytealg.CountString", "internal/bytealg.IndexByteString", "internal/bytealg.IndexString", "internal/abi.NoEscape", "internal/bytealg.MakeNoZero"], unfollowed := true, recurses := true, named := ["internal/bytealg.MaxLen", "unicode/utf8.first", "unicode/utf8.acceptRanges"], apart := false, laid := [("unicode/utf8.acceptRanges", laid_unicode_utf8_acceptRanges), ("unicode/utf8.first", laid_unicode_utf8_first)] }
def TextfnAllSaid : Prop := textfnAllRow.holds Tryz.pinned (OpenSpec.ofChange textfnAllSpec)

/-- ITS FALSE NEIGHBOUR: 'it returns false'. Refute it at one input. -/
def textfnAllWrong : ChangeSpec := { name := "textfnAll", fn := fun _ => fun
  | [d1, d2, d3] => { results := [.lit (.bool false)], args := [d1, d2, d3] }
  | _ => none }
def TextfnAllWrongFalsely : Prop := textfnAllRow.holds Tryz.pinned (OpenSpec.ofChange textfnAllWrong)

/-- 'wainwrightlaw18.TextfnNumbers': WHATEVER THE INPUT: true; the input reads as it did. -/
def textfnNumbersSpec : ChangeSpec := { name := "textfnNumbers", fn := fun _ => fun
  | [d1, d2, d3, d4] => { results := [.lit (.bool true)], args := [d1, d2, d3, d4] }
  | _ => none }
def textfnNumbersRow : OpenClaim := { program := "ytcclfjddakonoaagreatdoor", sum := "d8689f869ca1af71ee412ee1d684acc815e9c60595c9eaff09abb03c118895e2", func := "wainwright/wainwrightlaw18.TextfnNumbers", spec := "textfnNumbers", inPlace := ["internal/bytealg.CountString", "internal/bytealg.IndexByteString", "internal/bytealg.IndexString", "internal/abi.NoEscape", "internal/bytealg.MakeNoZero"], unfollowed := true, recurses := true, named := ["internal/bytealg.MaxLen", "unicode/utf8.first", "unicode/utf8.acceptRanges"], apart := false, laid := [("unicode/utf8.acceptRanges", laid_unicode_utf8_acceptRanges), ("unicode/utf8.first", laid_unicode_utf8_first)] }
def TextfnNumbersSaid : Prop := textfnNumbersRow.holds Tryz.pinned (OpenSpec.ofChange textfnNumbersSpec)

/-- ITS FALSE NEIGHBOUR: 'it returns false'. Refute it at one input. -/
def textfnNumbersWrong : ChangeSpec := { name := "textfnNumbers", fn := fun _ => fun
  | [d1, d2, d3, d4] => { results := [.lit (.bool false)], args := [d1, d2, d3, d4] }
  | _ => none }
def TextfnNumbersWrongFalsely : Prop := textfnNumbersRow.holds Tryz.pinned (OpenSpec.ofChange textfnNumbersWrong)

/-- 'wainwrightlaw18.TextfnLaws': WHATEVER THE INPUT: true; the input reads as it did. -/
def textfnLawsSpec : ChangeSpec := { name := "textfnLaws", fn := fun _ => fun
  | [d1, d2] => { results := [.lit (.bool true)], args := [d1, d2] }
  | _ => none }
def textfnLawsRow : OpenClaim := { program := "ytcclfjddakonoaagreatdoor", sum := "d8689f869ca1af71ee412ee1d684acc815e9c60595c9eaff09abb03c118895e2", func := "wainwright/wainwrightlaw18.TextfnLaws", spec := "textfnLaws", inPlace := ["internal/bytealg.CountString", "internal/bytealg.IndexByteString", "internal/bytealg.IndexString", "internal/abi.NoEscape", "internal/bytealg.MakeNoZero"], unfollowed := true, recurses := true, named := ["internal/bytealg.MaxLen", "unicode/utf8.first", "unicode/utf8.acceptRanges"], apart := false, laid := [("unicode/utf8.acceptRanges", laid_unicode_utf8_acceptRanges), ("unicode/utf8.first", laid_unicode_utf8_first)] }
def TextfnLawsSaid : Prop := textfnLawsRow.holds Tryz.pinned (OpenSpec.ofChange textfnLawsSpec)

/-- ITS FALSE NEIGHBOUR: 'it returns false'. Refute it at one input. -/
def textfnLawsWrong : ChangeSpec := { name := "textfnLaws", fn := fun _ => fun
  | [d1, d2] => { results := [.lit (.bool false)], args := [d1, d2] }
  | _ => none }
def TextfnLawsWrongFalsely : Prop := textfnLawsRow.holds Tryz.pinned (OpenSpec.ofChange textfnLawsWrong)

/-- 'wainwrightlaw18.TextfnForms': WHATEVER THE INPUT: true; the input reads as it did. -/
def textfnFormsSpec : ChangeSpec := { name := "textfnForms", fn := fun _ => fun
  | [d] => { results := [.lit (.bool true)], args := [d] }
  | _ => none }
def textfnFormsRow : OpenClaim := { program := "ytcclfjddakonoaagreatdoor", sum := "d8689f869ca1af71ee412ee1d684acc815e9c60595c9eaff09abb03c118895e2", func := "wainwright/wainwrightlaw18.TextfnForms", spec := "textfnForms", inPlace := ["internal/bytealg.CountString", "internal/bytealg.IndexByteString", "internal/bytealg.IndexString", "internal/abi.NoEscape", "internal/bytealg.MakeNoZero"], unfollowed := true, recurses := true, named := ["internal/bytealg.MaxLen", "unicode/utf8.first", "unicode/utf8.acceptRanges"], apart := false, laid := [("unicode/utf8.acceptRanges", laid_unicode_utf8_acceptRanges), ("unicode/utf8.first", laid_unicode_utf8_first)] }
def TextfnFormsSaid : Prop := textfnFormsRow.holds Tryz.pinned (OpenSpec.ofChange textfnFormsSpec)

/-- ITS FALSE NEIGHBOUR: 'it returns false'. Refute it at one input. -/
def textfnFormsWrong : ChangeSpec := { name := "textfnForms", fn := fun _ => fun
  | [d] => { results := [.lit (.bool false)], args := [d] }
  | _ => none }
def TextfnFormsWrongFalsely : Prop := textfnFormsRow.holds Tryz.pinned (OpenSpec.ofChange textfnFormsWrong)

/-- 'wainwrightlaw18.TextfnSubst': WHATEVER THE INPUT: true; the input reads as it did. -/
def textfnSubstSpec : ChangeSpec := { name := "textfnSubst", fn := fun _ => fun
  | [d1, d2, d3] => { results := [.lit (.bool true)], args := [d1, d2, d3] }
  | _ => none }
def textfnSubstRow : OpenClaim := { program := "ytcclfjddakonoaagreatdoor", sum := "d8689f869ca1af71ee412ee1d684acc815e9c60595c9eaff09abb03c118895e2", func := "wainwright/wainwrightlaw18.TextfnSubst", spec := "textfnSubst", inPlace := ["internal/bytealg.CountString", "internal/bytealg.IndexByteString", "internal/bytealg.IndexString", "internal/abi.NoEscape", "internal/bytealg.MakeNoZero"], unfollowed := true, recurses := true, named := ["internal/bytealg.MaxLen", "unicode/utf8.first", "unicode/utf8.acceptRanges"], apart := false, laid := [("unicode/utf8.acceptRanges", laid_unicode_utf8_acceptRanges), ("unicode/utf8.first", laid_unicode_utf8_first)] }
def TextfnSubstSaid : Prop := textfnSubstRow.holds Tryz.pinned (OpenSpec.ofChange textfnSubstSpec)

/-- ITS FALSE NEIGHBOUR: 'it returns false'. Refute it at one input. -/
def textfnSubstWrong : ChangeSpec := { name := "textfnSubst", fn := fun _ => fun
  | [d1, d2, d3] => { results := [.lit (.bool false)], args := [d1, d2, d3] }
  | _ => none }
def TextfnSubstWrongFalsely : Prop := textfnSubstRow.holds Tryz.pinned (OpenSpec.ofChange textfnSubstWrong)

/- THE SECOND FORM. 'bulk': how many values and letters a reading holds, each counted each time it is reached (what is shared counts as often as it is met; a slice's spare places count too). A statement '..UptoSaid' is the law's where the arguments, and the package variables that the reading takes, are together of bulk at most 1048576: NARROWER than '..Said'. Prove '..Said' where nothing that the law and all that it calls make is longer than what came in: it says more and counts as full. Else prove '..UptoSaid'. A law counts once. -/
mutual
def uptoBulk {H : Type} : DataW H → Nat
  | .lit (.string bytes) => bytes.length + 1
  | .lit _ => 1
  | .nil => 1
  | .ptr d => uptoBulk d + 1
  | .slice elems spare => uptoBulkAll elems + uptoBulkAll spare + 1
  | .agg parts => uptoBulkAll parts + 1
  | .iface _ d => uptoBulk d + 1
  | .map entries => uptoBulkEntries entries + 1
  | .held _ => 1
def uptoBulkAll {H : Type} : List (DataW H) → Nat
  | [] => 0
  | d :: r => uptoBulk d + uptoBulkAll r
def uptoBulkEntries {H : Type} : List (Lit × DataW H) → Nat
  | [] => 0
  | x :: r => uptoBulkEntry x + uptoBulkEntries r
def uptoBulkEntry {H : Type} : Lit × DataW H → Nat
  | (.string bytes, d) => bytes.length + uptoBulk d + 1
  | (_, d) => uptoBulk d + 1
 end
def uptoSmall : (H : Type) → List (DataW H) → Bool := fun _ ds => decide (uptoBulkAll ds ≤ 1048576)
def OpenSpec.upto (s : _root_.Go.ChangeSpec) : _root_.Go.OpenSpec := { _root_.Go.OpenSpec.ofChange s with cond := some uptoSmall }

/-- 'wainwrightlaw18.TextfnAll', WHERE WHAT IT READS IS OF BULK AT MOST 1048576: true; the input reads as it did. -/
def textfnAllUptoRow : OpenClaim := { program := "ytcclfjddakonoaagreatdoor", sum := "d8689f869ca1af71ee412ee1d684acc815e9c60595c9eaff09abb03c118895e2", func := "wainwright/wainwrightlaw18.TextfnAll", spec := "textfnAll", inPlace := ["internal/bytealg.CountString", "internal/bytealg.IndexByteString", "internal/bytealg.IndexString", "internal/abi.NoEscape", "internal/bytealg.MakeNoZero"], unfollowed := true, recurses := true, named := ["internal/bytealg.MaxLen", "unicode/utf8.first", "unicode/utf8.acceptRanges"], apart := false, laid := [("unicode/utf8.acceptRanges", laid_unicode_utf8_acceptRanges), ("unicode/utf8.first", laid_unicode_utf8_first)], narrowed := true }
def TextfnAllUptoSaid : Prop := textfnAllUptoRow.holds Tryz.pinned (OpenSpec.upto textfnAllSpec)

/-- 'wainwrightlaw18.TextfnNumbers', WHERE WHAT IT READS IS OF BULK AT MOST 1048576: true; the input reads as it did. -/
def textfnNumbersUptoRow : OpenClaim := { program := "ytcclfjddakonoaagreatdoor", sum := "d8689f869ca1af71ee412ee1d684acc815e9c60595c9eaff09abb03c118895e2", func := "wainwright/wainwrightlaw18.TextfnNumbers", spec := "textfnNumbers", inPlace := ["internal/bytealg.CountString", "internal/bytealg.IndexByteString", "internal/bytealg.IndexString", "internal/abi.NoEscape", "internal/bytealg.MakeNoZero"], unfollowed := true, recurses := true, named := ["internal/bytealg.MaxLen", "unicode/utf8.first", "unicode/utf8.acceptRanges"], apart := false, laid := [("unicode/utf8.acceptRanges", laid_unicode_utf8_acceptRanges), ("unicode/utf8.first", laid_unicode_utf8_first)], narrowed := true }
def TextfnNumbersUptoSaid : Prop := textfnNumbersUptoRow.holds Tryz.pinned (OpenSpec.upto textfnNumbersSpec)

/-- 'wainwrightlaw18.TextfnLaws', WHERE WHAT IT READS IS OF BULK AT MOST 1048576: true; the input reads as it did. -/
def textfnLawsUptoRow : OpenClaim := { program := "ytcclfjddakonoaagreatdoor", sum := "d8689f869ca1af71ee412ee1d684acc815e9c60595c9eaff09abb03c118895e2", func := "wainwright/wainwrightlaw18.TextfnLaws", spec := "textfnLaws", inPlace := ["internal/bytealg.CountString", "internal/bytealg.IndexByteString", "internal/bytealg.IndexString", "internal/abi.NoEscape", "internal/bytealg.MakeNoZero"], unfollowed := true, recurses := true, named := ["internal/bytealg.MaxLen", "unicode/utf8.first", "unicode/utf8.acceptRanges"], apart := false, laid := [("unicode/utf8.acceptRanges", laid_unicode_utf8_acceptRanges), ("unicode/utf8.first", laid_unicode_utf8_first)], narrowed := true }
def TextfnLawsUptoSaid : Prop := textfnLawsUptoRow.holds Tryz.pinned (OpenSpec.upto textfnLawsSpec)

/-- 'wainwrightlaw18.TextfnForms', WHERE WHAT IT READS IS OF BULK AT MOST 1048576: true; the input reads as it did. -/
def textfnFormsUptoRow : OpenClaim := { program := "ytcclfjddakonoaagreatdoor", sum := "d8689f869ca1af71ee412ee1d684acc815e9c60595c9eaff09abb03c118895e2", func := "wainwright/wainwrightlaw18.TextfnForms", spec := "textfnForms", inPlace := ["internal/bytealg.CountString", "internal/bytealg.IndexByteString", "internal/bytealg.IndexString", "internal/abi.NoEscape", "internal/bytealg.MakeNoZero"], unfollowed := true, recurses := true, named := ["internal/bytealg.MaxLen", "unicode/utf8.first", "unicode/utf8.acceptRanges"], apart := false, laid := [("unicode/utf8.acceptRanges", laid_unicode_utf8_acceptRanges), ("unicode/utf8.first", laid_unicode_utf8_first)], narrowed := true }
def TextfnFormsUptoSaid : Prop := textfnFormsUptoRow.holds Tryz.pinned (OpenSpec.upto textfnFormsSpec)

/-- 'wainwrightlaw18.TextfnSubst', WHERE WHAT IT READS IS OF BULK AT MOST 1048576: true; the input reads as it did. -/
def textfnSubstUptoRow : OpenClaim := { program := "ytcclfjddakonoaagreatdoor", sum := "d8689f869ca1af71ee412ee1d684acc815e9c60595c9eaff09abb03c118895e2", func := "wainwright/wainwrightlaw18.TextfnSubst", spec := "textfnSubst", inPlace := ["internal/bytealg.CountString", "internal/bytealg.IndexByteString", "internal/bytealg.IndexString", "internal/abi.NoEscape", "internal/bytealg.MakeNoZero"], unfollowed := true, recurses := true, named := ["internal/bytealg.MaxLen", "unicode/utf8.first", "unicode/utf8.acceptRanges"], apart := false, laid := [("unicode/utf8.acceptRanges", laid_unicode_utf8_acceptRanges), ("unicode/utf8.first", laid_unicode_utf8_first)], narrowed := true }
def TextfnSubstUptoSaid : Prop := textfnSubstUptoRow.holds Tryz.pinned (OpenSpec.upto textfnSubstSpec)

end Rows
end Go.Proofs.YtcclfjddakonoaaGreatDoor
