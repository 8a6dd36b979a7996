/-
  NARROWER THAN 'FOR EVERY INPUT', by the rows' own cells (each row's printed sentence says how): RuleReads: laid · RuleStatic: laid · RulePlain: laid · RuleWrong: laid · CondReads: laid · CondSides: laid · CondWrong: laid · CondPiles: laid · CondOne: laid.
  DERIVED. THE GIVEN ROWS OF THIS SEAT. 9 by the template 'for every input the law returns true; each argument reads behind the call as it read before'; 0 by the template 'total and deterministic' (their statements: YtckgeebihhhapaaDoorTotals.lean).
  GIVEN WITH THE SEED: the statements are not yours to turn. If you find one false, say at which input.
  Laid BY PROGRAM, IN A SANDBOX (cutbox-rows.mjs): the forced cells as the released guide's own fill.sh prints them over the translation c99aba1c687cadbd… (all of the seat's roots in one cut). By AI agents, Wed Nov 11 2026. No macro, syntax, notation, axiom, sorry.
-/
import Derived.Test.YtckgeebihhhapaaDoorChecked
import GoSem.PinnedTables
import GoSem.Claim
import GoSem.ClaimJoined
import GoSem.ClaimMapViews
import Derived.JoinedTies
import Derived.KernelRfl
namespace Go.Proofs.YtckgeebihhhapaaDoor
/- THE CELL 'sum', in the pinned program and in every row, IS THE sha256 OF THE DUMP (.gsa) THAT YtckgeebihhhapaaDoorProg.lean LOADS. Nothing in Lean hashes anything: it is a label: what it is worth is what the hold of that sum in a sandbox is worth. -/
noncomputable def Tryd.pinned : Pinned := { name := "ytckgeebihhhapaadoor", sum := "c99aba1c687cadbdcd420e5aa1765c8d11d50c41f326da8adf472d8c8ec0d591", checked := Tryd.checked }
namespace Rows
def none {H : Type} : Left H := { results := [], args := [] }

/- WHAT THE LISTED PACKAGE-LEVEL VARIABLES READ AS WHEN THE CALL BEGINS. Each datum BY PROGRAM (the guide's laid-datum.mjs) off the statement by which the dump's own 'gosem.cut.vars' lays the variable. In a bare row this is a premise. The card (YtckgeebihhhapaaDoorCards.lean) ties it to the program's text. -/
def laid_unicode_utf8_acceptRanges {H : Type} : DataW H := .agg [.agg [.lit (.int .u8 128), .lit (.int .u8 191)], .agg [.lit (.int .u8 160), .lit (.int .u8 191)], .agg [.lit (.int .u8 128), .lit (.int .u8 159)], .agg [.lit (.int .u8 144), .lit (.int .u8 191)], .agg [.lit (.int .u8 128), .lit (.int .u8 143)], .agg [.lit (.int .u8 0), .lit (.int .u8 0)], .agg [.lit (.int .u8 0), .lit (.int .u8 0)], .agg [.lit (.int .u8 0), .lit (.int .u8 0)], .agg [.lit (.int .u8 0), .lit (.int .u8 0)], .agg [.lit (.int .u8 0), .lit (.int .u8 0)], .agg [.lit (.int .u8 0), .lit (.int .u8 0)], .agg [.lit (.int .u8 0), .lit (.int .u8 0)], .agg [.lit (.int .u8 0), .lit (.int .u8 0)], .agg [.lit (.int .u8 0), .lit (.int .u8 0)], .agg [.lit (.int .u8 0), .lit (.int .u8 0)], .agg [.lit (.int .u8 0), .lit (.int .u8 0)]]
/-- One of Go's own tables, pinned by name: the form's constant. -/
def laid_unicode_utf8_first : DataW Unit := Go.Pinned.utf8First

/-- 'wainwrightlaw25.RuleReads': WHATEVER THE INPUT: true; the input reads as it did. -/
def ruleReadsSpec : ChangeSpec := { name := "ruleReads", fn := fun _ => fun
  | [d1, d2] => { results := [.lit (.bool true)], args := [d1, d2] }
  | _ => none }
def ruleReadsRow : OpenClaim := { program := "ytckgeebihhhapaadoor", sum := "c99aba1c687cadbdcd420e5aa1765c8d11d50c41f326da8adf472d8c8ec0d591", func := "wainwright/wainwrightlaw25.RuleReads", spec := "ruleReads", inPlace := ["internal/bytealg.IndexByteString", "internal/bytealg.IndexString", "internal/abi.NoEscape"], unfollowed := true, recurses := true, named := ["unicode/utf8.first", "unicode/utf8.acceptRanges", "internal/bytealg.MaxLen"], apart := false, laid := [("unicode/utf8.acceptRanges", laid_unicode_utf8_acceptRanges), ("unicode/utf8.first", laid_unicode_utf8_first)] }
def RuleReadsSaid : Prop := ruleReadsRow.holds Tryd.pinned (OpenSpec.ofChange ruleReadsSpec)

/-- ITS FALSE NEIGHBOUR: 'it returns false'. Refute it at one input. -/
def ruleReadsWrong : ChangeSpec := { name := "ruleReads", fn := fun _ => fun
  | [d1, d2] => { results := [.lit (.bool false)], args := [d1, d2] }
  | _ => none }
def RuleReadsWrongFalsely : Prop := ruleReadsRow.holds Tryd.pinned (OpenSpec.ofChange ruleReadsWrong)

/-- 'wainwrightlaw25.RuleStatic': WHATEVER THE INPUT: true; the input reads as it did. -/
def ruleStaticSpec : ChangeSpec := { name := "ruleStatic", fn := fun _ => fun
  | [d1, d2] => { results := [.lit (.bool true)], args := [d1, d2] }
  | _ => none }
def ruleStaticRow : OpenClaim := { program := "ytckgeebihhhapaadoor", sum := "c99aba1c687cadbdcd420e5aa1765c8d11d50c41f326da8adf472d8c8ec0d591", func := "wainwright/wainwrightlaw25.RuleStatic", spec := "ruleStatic", inPlace := ["internal/bytealg.IndexByteString", "internal/bytealg.IndexString", "internal/abi.NoEscape"], unfollowed := true, recurses := true, named := ["unicode/utf8.first", "unicode/utf8.acceptRanges", "internal/bytealg.MaxLen"], apart := false, laid := [("unicode/utf8.acceptRanges", laid_unicode_utf8_acceptRanges), ("unicode/utf8.first", laid_unicode_utf8_first)] }
def RuleStaticSaid : Prop := ruleStaticRow.holds Tryd.pinned (OpenSpec.ofChange ruleStaticSpec)

/-- ITS FALSE NEIGHBOUR: 'it returns false'. Refute it at one input. -/
def ruleStaticWrong : ChangeSpec := { name := "ruleStatic", fn := fun _ => fun
  | [d1, d2] => { results := [.lit (.bool false)], args := [d1, d2] }
  | _ => none }
def RuleStaticWrongFalsely : Prop := ruleStaticRow.holds Tryd.pinned (OpenSpec.ofChange ruleStaticWrong)

/-- 'wainwrightlaw25.RulePlain': WHATEVER THE INPUT: true; the input reads as it did. -/
def rulePlainSpec : ChangeSpec := { name := "rulePlain", fn := fun _ => fun
  | [d1, d2, d3, d4] => { results := [.lit (.bool true)], args := [d1, d2, d3, d4] }
  | _ => none }
def rulePlainRow : OpenClaim := { program := "ytckgeebihhhapaadoor", sum := "c99aba1c687cadbdcd420e5aa1765c8d11d50c41f326da8adf472d8c8ec0d591", func := "wainwright/wainwrightlaw25.RulePlain", spec := "rulePlain", inPlace := ["internal/bytealg.IndexByteString", "internal/bytealg.IndexString", "internal/abi.NoEscape"], unfollowed := true, recurses := true, named := ["unicode/utf8.first", "unicode/utf8.acceptRanges", "internal/bytealg.MaxLen"], apart := false, laid := [("unicode/utf8.acceptRanges", laid_unicode_utf8_acceptRanges), ("unicode/utf8.first", laid_unicode_utf8_first)] }
def RulePlainSaid : Prop := rulePlainRow.holds Tryd.pinned (OpenSpec.ofChange rulePlainSpec)

/-- ITS FALSE NEIGHBOUR: 'it returns false'. Refute it at one input. -/
def rulePlainWrong : ChangeSpec := { name := "rulePlain", fn := fun _ => fun
  | [d1, d2, d3, d4] => { results := [.lit (.bool false)], args := [d1, d2, d3, d4] }
  | _ => none }
def RulePlainWrongFalsely : Prop := rulePlainRow.holds Tryd.pinned (OpenSpec.ofChange rulePlainWrong)

/-- 'wainwrightlaw25.RuleWrong': WHATEVER THE INPUT: true; the input reads as it did. -/
def ruleWrongSpec : ChangeSpec := { name := "ruleWrong", fn := fun _ => fun
  | [d1, d2] => { results := [.lit (.bool true)], args := [d1, d2] }
  | _ => none }
def ruleWrongRow : OpenClaim := { program := "ytckgeebihhhapaadoor", sum := "c99aba1c687cadbdcd420e5aa1765c8d11d50c41f326da8adf472d8c8ec0d591", func := "wainwright/wainwrightlaw25.RuleWrong", spec := "ruleWrong", inPlace := ["internal/bytealg.IndexByteString", "internal/bytealg.IndexString", "internal/abi.NoEscape"], unfollowed := true, recurses := true, named := ["unicode/utf8.first", "unicode/utf8.acceptRanges", "internal/bytealg.MaxLen"], apart := false, laid := [("unicode/utf8.acceptRanges", laid_unicode_utf8_acceptRanges), ("unicode/utf8.first", laid_unicode_utf8_first)] }
def RuleWrongSaid : Prop := ruleWrongRow.holds Tryd.pinned (OpenSpec.ofChange ruleWrongSpec)

/-- ITS FALSE NEIGHBOUR: 'it returns false'. Refute it at one input. -/
def ruleWrongWrong : ChangeSpec := { name := "ruleWrong", fn := fun _ => fun
  | [d1, d2] => { results := [.lit (.bool false)], args := [d1, d2] }
  | _ => none }
def RuleWrongWrongFalsely : Prop := ruleWrongRow.holds Tryd.pinned (OpenSpec.ofChange ruleWrongWrong)

/-- 'wainwrightlaw23.CondReads': WHATEVER THE INPUT: true; the input reads as it did. -/
def condReadsSpec : ChangeSpec := { name := "condReads", fn := fun _ => fun
  | [d1, d2] => { results := [.lit (.bool true)], args := [d1, d2] }
  | _ => none }
def condReadsRow : OpenClaim := { program := "ytckgeebihhhapaadoor", sum := "c99aba1c687cadbdcd420e5aa1765c8d11d50c41f326da8adf472d8c8ec0d591", func := "wainwright/wainwrightlaw23.CondReads", spec := "condReads", inPlace := ["internal/bytealg.IndexByteString", "internal/bytealg.IndexString"], unfollowed := true, recurses := true, named := ["unicode/utf8.first", "unicode/utf8.acceptRanges", "internal/bytealg.MaxLen"], apart := false, laid := [("unicode/utf8.acceptRanges", laid_unicode_utf8_acceptRanges), ("unicode/utf8.first", laid_unicode_utf8_first)] }
def CondReadsSaid : Prop := condReadsRow.holds Tryd.pinned (OpenSpec.ofChange condReadsSpec)

/-- ITS FALSE NEIGHBOUR: 'it returns false'. Refute it at one input. -/
def condReadsWrong : ChangeSpec := { name := "condReads", fn := fun _ => fun
  | [d1, d2] => { results := [.lit (.bool false)], args := [d1, d2] }
  | _ => none }
def CondReadsWrongFalsely : Prop := condReadsRow.holds Tryd.pinned (OpenSpec.ofChange condReadsWrong)

/-- 'wainwrightlaw23.CondSides': WHATEVER THE INPUT: true; the input reads as it did. -/
def condSidesSpec : ChangeSpec := { name := "condSides", fn := fun _ => fun
  | [d1, d2, d3, d4] => { results := [.lit (.bool true)], args := [d1, d2, d3, d4] }
  | _ => none }
def condSidesRow : OpenClaim := { program := "ytckgeebihhhapaadoor", sum := "c99aba1c687cadbdcd420e5aa1765c8d11d50c41f326da8adf472d8c8ec0d591", func := "wainwright/wainwrightlaw23.CondSides", spec := "condSides", inPlace := ["internal/bytealg.IndexByteString", "internal/bytealg.IndexString"], unfollowed := true, recurses := true, named := ["unicode/utf8.first", "unicode/utf8.acceptRanges", "internal/bytealg.MaxLen"], apart := false, laid := [("unicode/utf8.acceptRanges", laid_unicode_utf8_acceptRanges), ("unicode/utf8.first", laid_unicode_utf8_first)] }
def CondSidesSaid : Prop := condSidesRow.holds Tryd.pinned (OpenSpec.ofChange condSidesSpec)

/-- ITS FALSE NEIGHBOUR: 'it returns false'. Refute it at one input. -/
def condSidesWrong : ChangeSpec := { name := "condSides", fn := fun _ => fun
  | [d1, d2, d3, d4] => { results := [.lit (.bool false)], args := [d1, d2, d3, d4] }
  | _ => none }
def CondSidesWrongFalsely : Prop := condSidesRow.holds Tryd.pinned (OpenSpec.ofChange condSidesWrong)

/-- 'wainwrightlaw23.CondWrong': WHATEVER THE INPUT: true; the input reads as it did. -/
def condWrongSpec : ChangeSpec := { name := "condWrong", fn := fun _ => fun
  | [d1, d2] => { results := [.lit (.bool true)], args := [d1, d2] }
  | _ => none }
def condWrongRow : OpenClaim := { program := "ytckgeebihhhapaadoor", sum := "c99aba1c687cadbdcd420e5aa1765c8d11d50c41f326da8adf472d8c8ec0d591", func := "wainwright/wainwrightlaw23.CondWrong", spec := "condWrong", inPlace := ["internal/bytealg.IndexByteString", "internal/bytealg.IndexString"], unfollowed := true, recurses := true, named := ["unicode/utf8.first", "unicode/utf8.acceptRanges", "internal/bytealg.MaxLen"], apart := false, laid := [("unicode/utf8.acceptRanges", laid_unicode_utf8_acceptRanges), ("unicode/utf8.first", laid_unicode_utf8_first)] }
def CondWrongSaid : Prop := condWrongRow.holds Tryd.pinned (OpenSpec.ofChange condWrongSpec)

/-- ITS FALSE NEIGHBOUR: 'it returns false'. Refute it at one input. -/
def condWrongWrong : ChangeSpec := { name := "condWrong", fn := fun _ => fun
  | [d1, d2] => { results := [.lit (.bool false)], args := [d1, d2] }
  | _ => none }
def CondWrongWrongFalsely : Prop := condWrongRow.holds Tryd.pinned (OpenSpec.ofChange condWrongWrong)

/-- 'wainwrightlaw23.CondPiles': WHATEVER THE INPUT: true; the input reads as it did. -/
def condPilesSpec : ChangeSpec := { name := "condPiles", fn := fun _ => fun
  | [d] => { results := [.lit (.bool true)], args := [d] }
  | _ => none }
def condPilesRow : OpenClaim := { program := "ytckgeebihhhapaadoor", sum := "c99aba1c687cadbdcd420e5aa1765c8d11d50c41f326da8adf472d8c8ec0d591", func := "wainwright/wainwrightlaw23.CondPiles", spec := "condPiles", inPlace := ["internal/bytealg.IndexByteString", "internal/bytealg.IndexString"], unfollowed := true, recurses := true, named := ["unicode/utf8.first", "unicode/utf8.acceptRanges", "internal/bytealg.MaxLen"], apart := false, laid := [("unicode/utf8.acceptRanges", laid_unicode_utf8_acceptRanges), ("unicode/utf8.first", laid_unicode_utf8_first)] }
def CondPilesSaid : Prop := condPilesRow.holds Tryd.pinned (OpenSpec.ofChange condPilesSpec)

/-- ITS FALSE NEIGHBOUR: 'it returns false'. Refute it at one input. -/
def condPilesWrong : ChangeSpec := { name := "condPiles", fn := fun _ => fun
  | [d] => { results := [.lit (.bool false)], args := [d] }
  | _ => none }
def CondPilesWrongFalsely : Prop := condPilesRow.holds Tryd.pinned (OpenSpec.ofChange condPilesWrong)

/-- 'wainwrightlaw23.CondOne': WHATEVER THE INPUT: true; the input reads as it did. -/
def condOneSpec : ChangeSpec := { name := "condOne", fn := fun _ => fun
  | [d1, d2, d3] => { results := [.lit (.bool true)], args := [d1, d2, d3] }
  | _ => none }
def condOneRow : OpenClaim := { program := "ytckgeebihhhapaadoor", sum := "c99aba1c687cadbdcd420e5aa1765c8d11d50c41f326da8adf472d8c8ec0d591", func := "wainwright/wainwrightlaw23.CondOne", spec := "condOne", inPlace := ["internal/bytealg.IndexByteString", "internal/bytealg.IndexString"], unfollowed := true, recurses := true, named := ["unicode/utf8.first", "unicode/utf8.acceptRanges", "internal/bytealg.MaxLen"], apart := false, laid := [("unicode/utf8.acceptRanges", laid_unicode_utf8_acceptRanges), ("unicode/utf8.first", laid_unicode_utf8_first)] }
def CondOneSaid : Prop := condOneRow.holds Tryd.pinned (OpenSpec.ofChange condOneSpec)

/-- ITS FALSE NEIGHBOUR: 'it returns false'. Refute it at one input. -/
def condOneWrong : ChangeSpec := { name := "condOne", fn := fun _ => fun
  | [d1, d2, d3] => { results := [.lit (.bool false)], args := [d1, d2, d3] }
  | _ => none }
def CondOneWrongFalsely : Prop := condOneRow.holds Tryd.pinned (OpenSpec.ofChange condOneWrong)

/- THE SECOND FORM. 'bulk': how many values and letters a reading holds, each counted each time it is reached (what is shared counts as often as it is met; a slice's spare places count too). A statement '..UptoSaid' is the law's where the arguments, and the package variables that the reading takes, are together of bulk at most 1048576: NARROWER than '..Said'. Prove '..Said' where nothing that the law and all that it calls make is longer than what came in: it says more and counts as full. Else prove '..UptoSaid'. A law counts once. -/
mutual
def uptoBulk {H : Type} : DataW H → Nat
  | .lit (.string bytes) => bytes.length + 1
  | .lit _ => 1
  | .nil => 1
  | .ptr d => uptoBulk d + 1
  | .slice elems spare => uptoBulkAll elems + uptoBulkAll spare + 1
  | .agg parts => uptoBulkAll parts + 1
  | .iface _ d => uptoBulk d + 1
  | .map entries => uptoBulkEntries entries + 1
  | .held _ => 1
def uptoBulkAll {H : Type} : List (DataW H) → Nat
  | [] => 0
  | d :: r => uptoBulk d + uptoBulkAll r
def uptoBulkEntries {H : Type} : List (Lit × DataW H) → Nat
  | [] => 0
  | x :: r => uptoBulkEntry x + uptoBulkEntries r
def uptoBulkEntry {H : Type} : Lit × DataW H → Nat
  | (.string bytes, d) => bytes.length + uptoBulk d + 1
  | (_, d) => uptoBulk d + 1
 end
def uptoSmall : (H : Type) → List (DataW H) → Bool := fun _ ds => decide (uptoBulkAll ds ≤ 1048576)
def OpenSpec.upto (s : _root_.Go.ChangeSpec) : _root_.Go.OpenSpec := { _root_.Go.OpenSpec.ofChange s with cond := some uptoSmall }

/-- 'wainwrightlaw25.RuleReads', WHERE WHAT IT READS IS OF BULK AT MOST 1048576: true; the input reads as it did. -/
def ruleReadsUptoRow : OpenClaim := { program := "ytckgeebihhhapaadoor", sum := "c99aba1c687cadbdcd420e5aa1765c8d11d50c41f326da8adf472d8c8ec0d591", func := "wainwright/wainwrightlaw25.RuleReads", spec := "ruleReads", inPlace := ["internal/bytealg.IndexByteString", "internal/bytealg.IndexString", "internal/abi.NoEscape"], unfollowed := true, recurses := true, named := ["unicode/utf8.first", "unicode/utf8.acceptRanges", "internal/bytealg.MaxLen"], apart := false, laid := [("unicode/utf8.acceptRanges", laid_unicode_utf8_acceptRanges), ("unicode/utf8.first", laid_unicode_utf8_first)], narrowed := true }
def RuleReadsUptoSaid : Prop := ruleReadsUptoRow.holds Tryd.pinned (OpenSpec.upto ruleReadsSpec)

/-- 'wainwrightlaw25.RuleStatic', WHERE WHAT IT READS IS OF BULK AT MOST 1048576: true; the input reads as it did. -/
def ruleStaticUptoRow : OpenClaim := { program := "ytckgeebihhhapaadoor", sum := "c99aba1c687cadbdcd420e5aa1765c8d11d50c41f326da8adf472d8c8ec0d591", func := "wainwright/wainwrightlaw25.RuleStatic", spec := "ruleStatic", inPlace := ["internal/bytealg.IndexByteString", "internal/bytealg.IndexString", "internal/abi.NoEscape"], unfollowed := true, recurses := true, named := ["unicode/utf8.first", "unicode/utf8.acceptRanges", "internal/bytealg.MaxLen"], apart := false, laid := [("unicode/utf8.acceptRanges", laid_unicode_utf8_acceptRanges), ("unicode/utf8.first", laid_unicode_utf8_first)], narrowed := true }
def RuleStaticUptoSaid : Prop := ruleStaticUptoRow.holds Tryd.pinned (OpenSpec.upto ruleStaticSpec)

/-- 'wainwrightlaw25.RulePlain', WHERE WHAT IT READS IS OF BULK AT MOST 1048576: true; the input reads as it did. -/
def rulePlainUptoRow : OpenClaim := { program := "ytckgeebihhhapaadoor", sum := "c99aba1c687cadbdcd420e5aa1765c8d11d50c41f326da8adf472d8c8ec0d591", func := "wainwright/wainwrightlaw25.RulePlain", spec := "rulePlain", inPlace := ["internal/bytealg.IndexByteString", "internal/bytealg.IndexString", "internal/abi.NoEscape"], unfollowed := true, recurses := true, named := ["unicode/utf8.first", "unicode/utf8.acceptRanges", "internal/bytealg.MaxLen"], apart := false, laid := [("unicode/utf8.acceptRanges", laid_unicode_utf8_acceptRanges), ("unicode/utf8.first", laid_unicode_utf8_first)], narrowed := true }
def RulePlainUptoSaid : Prop := rulePlainUptoRow.holds Tryd.pinned (OpenSpec.upto rulePlainSpec)

/-- 'wainwrightlaw25.RuleWrong', WHERE WHAT IT READS IS OF BULK AT MOST 1048576: true; the input reads as it did. -/
def ruleWrongUptoRow : OpenClaim := { program := "ytckgeebihhhapaadoor", sum := "c99aba1c687cadbdcd420e5aa1765c8d11d50c41f326da8adf472d8c8ec0d591", func := "wainwright/wainwrightlaw25.RuleWrong", spec := "ruleWrong", inPlace := ["internal/bytealg.IndexByteString", "internal/bytealg.IndexString", "internal/abi.NoEscape"], unfollowed := true, recurses := true, named := ["unicode/utf8.first", "unicode/utf8.acceptRanges", "internal/bytealg.MaxLen"], apart := false, laid := [("unicode/utf8.acceptRanges", laid_unicode_utf8_acceptRanges), ("unicode/utf8.first", laid_unicode_utf8_first)], narrowed := true }
def RuleWrongUptoSaid : Prop := ruleWrongUptoRow.holds Tryd.pinned (OpenSpec.upto ruleWrongSpec)

/-- 'wainwrightlaw23.CondReads', WHERE WHAT IT READS IS OF BULK AT MOST 1048576: true; the input reads as it did. -/
def condReadsUptoRow : OpenClaim := { program := "ytckgeebihhhapaadoor", sum := "c99aba1c687cadbdcd420e5aa1765c8d11d50c41f326da8adf472d8c8ec0d591", func := "wainwright/wainwrightlaw23.CondReads", spec := "condReads", inPlace := ["internal/bytealg.IndexByteString", "internal/bytealg.IndexString"], unfollowed := true, recurses := true, named := ["unicode/utf8.first", "unicode/utf8.acceptRanges", "internal/bytealg.MaxLen"], apart := false, laid := [("unicode/utf8.acceptRanges", laid_unicode_utf8_acceptRanges), ("unicode/utf8.first", laid_unicode_utf8_first)], narrowed := true }
def CondReadsUptoSaid : Prop := condReadsUptoRow.holds Tryd.pinned (OpenSpec.upto condReadsSpec)

/-- 'wainwrightlaw23.CondSides', WHERE WHAT IT READS IS OF BULK AT MOST 1048576: true; the input reads as it did. -/
def condSidesUptoRow : OpenClaim := { program := "ytckgeebihhhapaadoor", sum := "c99aba1c687cadbdcd420e5aa1765c8d11d50c41f326da8adf472d8c8ec0d591", func := "wainwright/wainwrightlaw23.CondSides", spec := "condSides", inPlace := ["internal/bytealg.IndexByteString", "internal/bytealg.IndexString"], unfollowed := true, recurses := true, named := ["unicode/utf8.first", "unicode/utf8.acceptRanges", "internal/bytealg.MaxLen"], apart := false, laid := [("unicode/utf8.acceptRanges", laid_unicode_utf8_acceptRanges), ("unicode/utf8.first", laid_unicode_utf8_first)], narrowed := true }
def CondSidesUptoSaid : Prop := condSidesUptoRow.holds Tryd.pinned (OpenSpec.upto condSidesSpec)

/-- 'wainwrightlaw23.CondWrong', WHERE WHAT IT READS IS OF BULK AT MOST 1048576: true; the input reads as it did. -/
def condWrongUptoRow : OpenClaim := { program := "ytckgeebihhhapaadoor", sum := "c99aba1c687cadbdcd420e5aa1765c8d11d50c41f326da8adf472d8c8ec0d591", func := "wainwright/wainwrightlaw23.CondWrong", spec := "condWrong", inPlace := ["internal/bytealg.IndexByteString", "internal/bytealg.IndexString"], unfollowed := true, recurses := true, named := ["unicode/utf8.first", "unicode/utf8.acceptRanges", "internal/bytealg.MaxLen"], apart := false, laid := [("unicode/utf8.acceptRanges", laid_unicode_utf8_acceptRanges), ("unicode/utf8.first", laid_unicode_utf8_first)], narrowed := true }
def CondWrongUptoSaid : Prop := condWrongUptoRow.holds Tryd.pinned (OpenSpec.upto condWrongSpec)

/-- 'wainwrightlaw23.CondPiles', WHERE WHAT IT READS IS OF BULK AT MOST 1048576: true; the input reads as it did. -/
def condPilesUptoRow : OpenClaim := { program := "ytckgeebihhhapaadoor", sum := "c99aba1c687cadbdcd420e5aa1765c8d11d50c41f326da8adf472d8c8ec0d591", func := "wainwright/wainwrightlaw23.CondPiles", spec := "condPiles", inPlace := ["internal/bytealg.IndexByteString", "internal/bytealg.IndexString"], unfollowed := true, recurses := true, named := ["unicode/utf8.first", "unicode/utf8.acceptRanges", "internal/bytealg.MaxLen"], apart := false, laid := [("unicode/utf8.acceptRanges", laid_unicode_utf8_acceptRanges), ("unicode/utf8.first", laid_unicode_utf8_first)], narrowed := true }
def CondPilesUptoSaid : Prop := condPilesUptoRow.holds Tryd.pinned (OpenSpec.upto condPilesSpec)

/-- 'wainwrightlaw23.CondOne', WHERE WHAT IT READS IS OF BULK AT MOST 1048576: true; the input reads as it did. -/
def condOneUptoRow : OpenClaim := { program := "ytckgeebihhhapaadoor", sum := "c99aba1c687cadbdcd420e5aa1765c8d11d50c41f326da8adf472d8c8ec0d591", func := "wainwright/wainwrightlaw23.CondOne", spec := "condOne", inPlace := ["internal/bytealg.IndexByteString", "internal/bytealg.IndexString"], unfollowed := true, recurses := true, named := ["unicode/utf8.first", "unicode/utf8.acceptRanges", "internal/bytealg.MaxLen"], apart := false, laid := [("unicode/utf8.acceptRanges", laid_unicode_utf8_acceptRanges), ("unicode/utf8.first", laid_unicode_utf8_first)], narrowed := true }
def CondOneUptoSaid : Prop := condOneUptoRow.holds Tryd.pinned (OpenSpec.upto condOneSpec)

end Rows
end Go.Proofs.YtckgeebihhhapaaDoor
