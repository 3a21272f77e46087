/-
  NARROWER THAN 'FOR EVERY INPUT', by the rows' own cells (each row's printed sentence says how): SpanCubics: laid · SpanPolys: laid · RowTexts: laid · RowBack: laid · RowSums: laid · RowMixes: laid · RowShares: laid · RowTells: laid.
  DERIVED. THE GIVEN ROWS OF THIS SEAT. 8 by the template 'for every input the law returns true; each argument reads behind the call as it read before'; 0 by the template 'total and deterministic' (their statements: YthgldcflcmlgpaaGreatDoorTotals.lean).
  GIVEN WITH THE SEED: the statements are not yours to turn. If you find one false, say at which input.
  Laid BY PROGRAM, IN A SANDBOX (cutbox-rows.mjs): the forced cells as the released guide's own fill.sh prints them over the translation c651383b7cf47aaa… (all of the seat's roots in one cut). By AI agents, Wed Nov 11 2026. No macro, syntax, notation, axiom, sorry.
-/
import Derived.Test.YthgldcflcmlgpaaGreatDoorChecked
import GoSem.PinnedTables
import GoSem.Claim
import GoSem.ClaimJoined
import GoSem.ClaimMapViews
import Derived.JoinedTies
import Derived.KernelRfl
namespace Go.Proofs.YthgldcflcmlgpaaGreatDoor
/- THE CELL 'sum', in the pinned program and in every row, IS THE sha256 OF THE DUMP (.gsa) THAT YthgldcflcmlgpaaGreatDoorProg.lean LOADS. Nothing in Lean hashes anything: it is a label: what it is worth is what the hold of that sum in a sandbox is worth. -/
noncomputable def Tryz.pinned : Pinned := { name := "ythgldcflcmlgpaagreatdoor", sum := "c651383b7cf47aaad6f6931f1c1e8dc072fc0893a108b3e9f40fc3b3b1d800a7", checked := Tryz.checked }
namespace Rows
def none {H : Type} : Left H := { results := [], args := [] }

/- WHAT THE LISTED PACKAGE-LEVEL VARIABLES READ AS WHEN THE CALL BEGINS. Each datum BY PROGRAM (the guide's laid-datum.mjs) off the statement by which the dump's own 'gosem.cut.vars' lays the variable. In a bare row this is a premise. The card (YthgldcflcmlgpaaGreatDoorCards.lean) ties it to the program's text. -/
def laid_unicode_utf8_acceptRanges {H : Type} : DataW H := .agg [.agg [.lit (.int .u8 128), .lit (.int .u8 191)], .agg [.lit (.int .u8 160), .lit (.int .u8 191)], .agg [.lit (.int .u8 128), .lit (.int .u8 159)], .agg [.lit (.int .u8 144), .lit (.int .u8 191)], .agg [.lit (.int .u8 128), .lit (.int .u8 143)], .agg [.lit (.int .u8 0), .lit (.int .u8 0)], .agg [.lit (.int .u8 0), .lit (.int .u8 0)], .agg [.lit (.int .u8 0), .lit (.int .u8 0)], .agg [.lit (.int .u8 0), .lit (.int .u8 0)], .agg [.lit (.int .u8 0), .lit (.int .u8 0)], .agg [.lit (.int .u8 0), .lit (.int .u8 0)], .agg [.lit (.int .u8 0), .lit (.int .u8 0)], .agg [.lit (.int .u8 0), .lit (.int .u8 0)], .agg [.lit (.int .u8 0), .lit (.int .u8 0)], .agg [.lit (.int .u8 0), .lit (.int .u8 0)], .agg [.lit (.int .u8 0), .lit (.int .u8 0)]]
/-- One of Go's own tables, pinned by name: the form's constant. -/
def laid_unicode_utf8_first : DataW Unit := Go.Pinned.utf8First

/-- 'retrospectlaw41.SpanCubics': WHATEVER THE INPUT: true; the input reads as it did. -/
def spanCubicsSpec : ChangeSpec := { name := "spanCubics", fn := fun _ => fun
  | [d1, d2] => { results := [.lit (.bool true)], args := [d1, d2] }
  | _ => none }
def spanCubicsRow : OpenClaim := { program := "ythgldcflcmlgpaagreatdoor", sum := "c651383b7cf47aaad6f6931f1c1e8dc072fc0893a108b3e9f40fc3b3b1d800a7", func := "retrospect/retrospectlaw41.SpanCubics", spec := "spanCubics", inPlace := ["internal/abi.NoEscape", "internal/bytealg.IndexByteString", "internal/bytealg.IndexString", "internal/bytealg.MakeNoZero"], named := ["unicode/utf8.first", "unicode/utf8.acceptRanges", "internal/bytealg.MaxLen"], apart := false, laid := [("unicode/utf8.acceptRanges", laid_unicode_utf8_acceptRanges), ("unicode/utf8.first", laid_unicode_utf8_first)] }
def SpanCubicsSaid : Prop := spanCubicsRow.holds Tryz.pinned (OpenSpec.ofChange spanCubicsSpec)

/-- ITS FALSE NEIGHBOUR: 'it returns false'. Refute it at one input. -/
def spanCubicsWrong : ChangeSpec := { name := "spanCubics", fn := fun _ => fun
  | [d1, d2] => { results := [.lit (.bool false)], args := [d1, d2] }
  | _ => none }
def SpanCubicsWrongFalsely : Prop := spanCubicsRow.holds Tryz.pinned (OpenSpec.ofChange spanCubicsWrong)

/-- 'retrospectlaw41.SpanPolys': WHATEVER THE INPUT: true; the input reads as it did. -/
def spanPolysSpec : ChangeSpec := { name := "spanPolys", fn := fun _ => fun
  | [d1, d2] => { results := [.lit (.bool true)], args := [d1, d2] }
  | _ => none }
def spanPolysRow : OpenClaim := { program := "ythgldcflcmlgpaagreatdoor", sum := "c651383b7cf47aaad6f6931f1c1e8dc072fc0893a108b3e9f40fc3b3b1d800a7", func := "retrospect/retrospectlaw41.SpanPolys", spec := "spanPolys", inPlace := ["internal/abi.NoEscape", "internal/bytealg.IndexByteString", "internal/bytealg.IndexString", "internal/bytealg.MakeNoZero"], named := ["unicode/utf8.first", "unicode/utf8.acceptRanges", "internal/bytealg.MaxLen"], apart := false, laid := [("unicode/utf8.acceptRanges", laid_unicode_utf8_acceptRanges), ("unicode/utf8.first", laid_unicode_utf8_first)] }
def SpanPolysSaid : Prop := spanPolysRow.holds Tryz.pinned (OpenSpec.ofChange spanPolysSpec)

/-- ITS FALSE NEIGHBOUR: 'it returns false'. Refute it at one input. -/
def spanPolysWrong : ChangeSpec := { name := "spanPolys", fn := fun _ => fun
  | [d1, d2] => { results := [.lit (.bool false)], args := [d1, d2] }
  | _ => none }
def SpanPolysWrongFalsely : Prop := spanPolysRow.holds Tryz.pinned (OpenSpec.ofChange spanPolysWrong)

/-- 'retrospectlaw11.RowTexts': WHATEVER THE INPUT: true; the input reads as it did. -/
def rowTextsSpec : ChangeSpec := { name := "rowTexts", fn := fun _ => fun
  | [d1, d2] => { results := [.lit (.bool true)], args := [d1, d2] }
  | _ => none }
def rowTextsRow : OpenClaim := { program := "ythgldcflcmlgpaagreatdoor", sum := "c651383b7cf47aaad6f6931f1c1e8dc072fc0893a108b3e9f40fc3b3b1d800a7", func := "retrospect/retrospectlaw11.RowTexts", spec := "rowTexts", inPlace := ["internal/bytealg.CountString", "internal/bytealg.IndexByteString", "internal/bytealg.IndexString", "internal/abi.NoEscape", "internal/bytealg.MakeNoZero"], named := ["unicode/utf8.first", "unicode/utf8.acceptRanges", "internal/bytealg.MaxLen"], apart := false, laid := [("unicode/utf8.acceptRanges", laid_unicode_utf8_acceptRanges), ("unicode/utf8.first", laid_unicode_utf8_first)] }
def RowTextsSaid : Prop := rowTextsRow.holds Tryz.pinned (OpenSpec.ofChange rowTextsSpec)

/-- ITS FALSE NEIGHBOUR: 'it returns false'. Refute it at one input. -/
def rowTextsWrong : ChangeSpec := { name := "rowTexts", fn := fun _ => fun
  | [d1, d2] => { results := [.lit (.bool false)], args := [d1, d2] }
  | _ => none }
def RowTextsWrongFalsely : Prop := rowTextsRow.holds Tryz.pinned (OpenSpec.ofChange rowTextsWrong)

/-- 'retrospectlaw11.RowBack': WHATEVER THE INPUT: true; the input reads as it did. -/
def rowBackSpec : ChangeSpec := { name := "rowBack", fn := fun _ => fun
  | [d] => { results := [.lit (.bool true)], args := [d] }
  | _ => none }
def rowBackRow : OpenClaim := { program := "ythgldcflcmlgpaagreatdoor", sum := "c651383b7cf47aaad6f6931f1c1e8dc072fc0893a108b3e9f40fc3b3b1d800a7", func := "retrospect/retrospectlaw11.RowBack", spec := "rowBack", inPlace := ["internal/bytealg.CountString", "internal/bytealg.IndexByteString", "internal/bytealg.IndexString", "internal/abi.NoEscape", "internal/bytealg.MakeNoZero"], named := ["unicode/utf8.first", "unicode/utf8.acceptRanges", "internal/bytealg.MaxLen"], apart := false, laid := [("unicode/utf8.acceptRanges", laid_unicode_utf8_acceptRanges), ("unicode/utf8.first", laid_unicode_utf8_first)] }
def RowBackSaid : Prop := rowBackRow.holds Tryz.pinned (OpenSpec.ofChange rowBackSpec)

/-- ITS FALSE NEIGHBOUR: 'it returns false'. Refute it at one input. -/
def rowBackWrong : ChangeSpec := { name := "rowBack", fn := fun _ => fun
  | [d] => { results := [.lit (.bool false)], args := [d] }
  | _ => none }
def RowBackWrongFalsely : Prop := rowBackRow.holds Tryz.pinned (OpenSpec.ofChange rowBackWrong)

/-- 'retrospectlaw11.RowSums': WHATEVER THE INPUT: true; the input reads as it did. -/
def rowSumsSpec : ChangeSpec := { name := "rowSums", fn := fun _ => fun
  | [d1, d2, d3] => { results := [.lit (.bool true)], args := [d1, d2, d3] }
  | _ => none }
def rowSumsRow : OpenClaim := { program := "ythgldcflcmlgpaagreatdoor", sum := "c651383b7cf47aaad6f6931f1c1e8dc072fc0893a108b3e9f40fc3b3b1d800a7", func := "retrospect/retrospectlaw11.RowSums", spec := "rowSums", inPlace := ["internal/bytealg.CountString", "internal/bytealg.IndexByteString", "internal/bytealg.IndexString", "internal/abi.NoEscape", "internal/bytealg.MakeNoZero"], named := ["unicode/utf8.first", "unicode/utf8.acceptRanges", "internal/bytealg.MaxLen"], apart := false, laid := [("unicode/utf8.acceptRanges", laid_unicode_utf8_acceptRanges), ("unicode/utf8.first", laid_unicode_utf8_first)] }
def RowSumsSaid : Prop := rowSumsRow.holds Tryz.pinned (OpenSpec.ofChange rowSumsSpec)

/-- ITS FALSE NEIGHBOUR: 'it returns false'. Refute it at one input. -/
def rowSumsWrong : ChangeSpec := { name := "rowSums", fn := fun _ => fun
  | [d1, d2, d3] => { results := [.lit (.bool false)], args := [d1, d2, d3] }
  | _ => none }
def RowSumsWrongFalsely : Prop := rowSumsRow.holds Tryz.pinned (OpenSpec.ofChange rowSumsWrong)

/-- 'retrospectlaw11.RowMixes': WHATEVER THE INPUT: true; the input reads as it did. -/
def rowMixesSpec : ChangeSpec := { name := "rowMixes", fn := fun _ => fun
  | [d1, d2, d3] => { results := [.lit (.bool true)], args := [d1, d2, d3] }
  | _ => none }
def rowMixesRow : OpenClaim := { program := "ythgldcflcmlgpaagreatdoor", sum := "c651383b7cf47aaad6f6931f1c1e8dc072fc0893a108b3e9f40fc3b3b1d800a7", func := "retrospect/retrospectlaw11.RowMixes", spec := "rowMixes", inPlace := ["internal/bytealg.CountString", "internal/bytealg.IndexByteString", "internal/bytealg.IndexString", "internal/abi.NoEscape", "internal/bytealg.MakeNoZero"], named := ["unicode/utf8.first", "unicode/utf8.acceptRanges", "internal/bytealg.MaxLen"], apart := false, laid := [("unicode/utf8.acceptRanges", laid_unicode_utf8_acceptRanges), ("unicode/utf8.first", laid_unicode_utf8_first)] }
def RowMixesSaid : Prop := rowMixesRow.holds Tryz.pinned (OpenSpec.ofChange rowMixesSpec)

/-- ITS FALSE NEIGHBOUR: 'it returns false'. Refute it at one input. -/
def rowMixesWrong : ChangeSpec := { name := "rowMixes", fn := fun _ => fun
  | [d1, d2, d3] => { results := [.lit (.bool false)], args := [d1, d2, d3] }
  | _ => none }
def RowMixesWrongFalsely : Prop := rowMixesRow.holds Tryz.pinned (OpenSpec.ofChange rowMixesWrong)

/-- 'retrospectlaw11.RowShares': WHATEVER THE INPUT: true; the input reads as it did. -/
def rowSharesSpec : ChangeSpec := { name := "rowShares", fn := fun _ => fun
  | [d1, d2, d3] => { results := [.lit (.bool true)], args := [d1, d2, d3] }
  | _ => none }
def rowSharesRow : OpenClaim := { program := "ythgldcflcmlgpaagreatdoor", sum := "c651383b7cf47aaad6f6931f1c1e8dc072fc0893a108b3e9f40fc3b3b1d800a7", func := "retrospect/retrospectlaw11.RowShares", spec := "rowShares", inPlace := ["internal/bytealg.CountString", "internal/bytealg.IndexByteString", "internal/bytealg.IndexString", "internal/abi.NoEscape", "internal/bytealg.MakeNoZero"], named := ["unicode/utf8.first", "unicode/utf8.acceptRanges", "internal/bytealg.MaxLen"], apart := false, laid := [("unicode/utf8.acceptRanges", laid_unicode_utf8_acceptRanges), ("unicode/utf8.first", laid_unicode_utf8_first)] }
def RowSharesSaid : Prop := rowSharesRow.holds Tryz.pinned (OpenSpec.ofChange rowSharesSpec)

/-- ITS FALSE NEIGHBOUR: 'it returns false'. Refute it at one input. -/
def rowSharesWrong : ChangeSpec := { name := "rowShares", fn := fun _ => fun
  | [d1, d2, d3] => { results := [.lit (.bool false)], args := [d1, d2, d3] }
  | _ => none }
def RowSharesWrongFalsely : Prop := rowSharesRow.holds Tryz.pinned (OpenSpec.ofChange rowSharesWrong)

/-- 'retrospectlaw11.RowTells': WHATEVER THE INPUT: true; the input reads as it did. -/
def rowTellsSpec : ChangeSpec := { name := "rowTells", fn := fun _ => fun
  | [d1, d2, d3] => { results := [.lit (.bool true)], args := [d1, d2, d3] }
  | _ => none }
def rowTellsRow : OpenClaim := { program := "ythgldcflcmlgpaagreatdoor", sum := "c651383b7cf47aaad6f6931f1c1e8dc072fc0893a108b3e9f40fc3b3b1d800a7", func := "retrospect/retrospectlaw11.RowTells", spec := "rowTells", inPlace := ["internal/bytealg.CountString", "internal/bytealg.IndexByteString", "internal/bytealg.IndexString", "internal/abi.NoEscape", "internal/bytealg.MakeNoZero"], named := ["unicode/utf8.first", "unicode/utf8.acceptRanges", "internal/bytealg.MaxLen"], apart := false, laid := [("unicode/utf8.acceptRanges", laid_unicode_utf8_acceptRanges), ("unicode/utf8.first", laid_unicode_utf8_first)] }
def RowTellsSaid : Prop := rowTellsRow.holds Tryz.pinned (OpenSpec.ofChange rowTellsSpec)

/-- ITS FALSE NEIGHBOUR: 'it returns false'. Refute it at one input. -/
def rowTellsWrong : ChangeSpec := { name := "rowTells", fn := fun _ => fun
  | [d1, d2, d3] => { results := [.lit (.bool false)], args := [d1, d2, d3] }
  | _ => none }
def RowTellsWrongFalsely : Prop := rowTellsRow.holds Tryz.pinned (OpenSpec.ofChange rowTellsWrong)

/- THE SECOND FORM. 'bulk': how many values and letters a reading holds, each counted each time it is reached (what is shared counts as often as it is met; a slice's spare places count too). A statement '..UptoSaid' is the law's where the arguments, and the package variables that the reading takes, are together of bulk at most 1048576: NARROWER than '..Said'. Prove '..Said' where nothing that the law and all that it calls make is longer than what came in: it says more and counts as full. Else prove '..UptoSaid'. A law counts once. -/
mutual
def uptoBulk {H : Type} : DataW H → Nat
  | .lit (.string bytes) => bytes.length + 1
  | .lit _ => 1
  | .nil => 1
  | .ptr d => uptoBulk d + 1
  | .slice elems spare => uptoBulkAll elems + uptoBulkAll spare + 1
  | .agg parts => uptoBulkAll parts + 1
  | .iface _ d => uptoBulk d + 1
  | .map entries => uptoBulkEntries entries + 1
  | .held _ => 1
def uptoBulkAll {H : Type} : List (DataW H) → Nat
  | [] => 0
  | d :: r => uptoBulk d + uptoBulkAll r
def uptoBulkEntries {H : Type} : List (Lit × DataW H) → Nat
  | [] => 0
  | x :: r => uptoBulkEntry x + uptoBulkEntries r
def uptoBulkEntry {H : Type} : Lit × DataW H → Nat
  | (.string bytes, d) => bytes.length + uptoBulk d + 1
  | (_, d) => uptoBulk d + 1
 end
def uptoSmall : (H : Type) → List (DataW H) → Bool := fun _ ds => decide (uptoBulkAll ds ≤ 1048576)
def OpenSpec.upto (s : _root_.Go.ChangeSpec) : _root_.Go.OpenSpec := { _root_.Go.OpenSpec.ofChange s with cond := some uptoSmall }

/-- 'retrospectlaw41.SpanCubics', WHERE WHAT IT READS IS OF BULK AT MOST 1048576: true; the input reads as it did. -/
def spanCubicsUptoRow : OpenClaim := { program := "ythgldcflcmlgpaagreatdoor", sum := "c651383b7cf47aaad6f6931f1c1e8dc072fc0893a108b3e9f40fc3b3b1d800a7", func := "retrospect/retrospectlaw41.SpanCubics", spec := "spanCubics", inPlace := ["internal/abi.NoEscape", "internal/bytealg.IndexByteString", "internal/bytealg.IndexString", "internal/bytealg.MakeNoZero"], named := ["unicode/utf8.first", "unicode/utf8.acceptRanges", "internal/bytealg.MaxLen"], apart := false, laid := [("unicode/utf8.acceptRanges", laid_unicode_utf8_acceptRanges), ("unicode/utf8.first", laid_unicode_utf8_first)], narrowed := true }
def SpanCubicsUptoSaid : Prop := spanCubicsUptoRow.holds Tryz.pinned (OpenSpec.upto spanCubicsSpec)

/-- 'retrospectlaw41.SpanPolys', WHERE WHAT IT READS IS OF BULK AT MOST 1048576: true; the input reads as it did. -/
def spanPolysUptoRow : OpenClaim := { program := "ythgldcflcmlgpaagreatdoor", sum := "c651383b7cf47aaad6f6931f1c1e8dc072fc0893a108b3e9f40fc3b3b1d800a7", func := "retrospect/retrospectlaw41.SpanPolys", spec := "spanPolys", inPlace := ["internal/abi.NoEscape", "internal/bytealg.IndexByteString", "internal/bytealg.IndexString", "internal/bytealg.MakeNoZero"], named := ["unicode/utf8.first", "unicode/utf8.acceptRanges", "internal/bytealg.MaxLen"], apart := false, laid := [("unicode/utf8.acceptRanges", laid_unicode_utf8_acceptRanges), ("unicode/utf8.first", laid_unicode_utf8_first)], narrowed := true }
def SpanPolysUptoSaid : Prop := spanPolysUptoRow.holds Tryz.pinned (OpenSpec.upto spanPolysSpec)

/-- 'retrospectlaw11.RowTexts', WHERE WHAT IT READS IS OF BULK AT MOST 1048576: true; the input reads as it did. -/
def rowTextsUptoRow : OpenClaim := { program := "ythgldcflcmlgpaagreatdoor", sum := "c651383b7cf47aaad6f6931f1c1e8dc072fc0893a108b3e9f40fc3b3b1d800a7", func := "retrospect/retrospectlaw11.RowTexts", spec := "rowTexts", inPlace := ["internal/bytealg.CountString", "internal/bytealg.IndexByteString", "internal/bytealg.IndexString", "internal/abi.NoEscape", "internal/bytealg.MakeNoZero"], named := ["unicode/utf8.first", "unicode/utf8.acceptRanges", "internal/bytealg.MaxLen"], apart := false, laid := [("unicode/utf8.acceptRanges", laid_unicode_utf8_acceptRanges), ("unicode/utf8.first", laid_unicode_utf8_first)], narrowed := true }
def RowTextsUptoSaid : Prop := rowTextsUptoRow.holds Tryz.pinned (OpenSpec.upto rowTextsSpec)

/-- 'retrospectlaw11.RowBack', WHERE WHAT IT READS IS OF BULK AT MOST 1048576: true; the input reads as it did. -/
def rowBackUptoRow : OpenClaim := { program := "ythgldcflcmlgpaagreatdoor", sum := "c651383b7cf47aaad6f6931f1c1e8dc072fc0893a108b3e9f40fc3b3b1d800a7", func := "retrospect/retrospectlaw11.RowBack", spec := "rowBack", inPlace := ["internal/bytealg.CountString", "internal/bytealg.IndexByteString", "internal/bytealg.IndexString", "internal/abi.NoEscape", "internal/bytealg.MakeNoZero"], named := ["unicode/utf8.first", "unicode/utf8.acceptRanges", "internal/bytealg.MaxLen"], apart := false, laid := [("unicode/utf8.acceptRanges", laid_unicode_utf8_acceptRanges), ("unicode/utf8.first", laid_unicode_utf8_first)], narrowed := true }
def RowBackUptoSaid : Prop := rowBackUptoRow.holds Tryz.pinned (OpenSpec.upto rowBackSpec)

/-- 'retrospectlaw11.RowSums', WHERE WHAT IT READS IS OF BULK AT MOST 1048576: true; the input reads as it did. -/
def rowSumsUptoRow : OpenClaim := { program := "ythgldcflcmlgpaagreatdoor", sum := "c651383b7cf47aaad6f6931f1c1e8dc072fc0893a108b3e9f40fc3b3b1d800a7", func := "retrospect/retrospectlaw11.RowSums", spec := "rowSums", inPlace := ["internal/bytealg.CountString", "internal/bytealg.IndexByteString", "internal/bytealg.IndexString", "internal/abi.NoEscape", "internal/bytealg.MakeNoZero"], named := ["unicode/utf8.first", "unicode/utf8.acceptRanges", "internal/bytealg.MaxLen"], apart := false, laid := [("unicode/utf8.acceptRanges", laid_unicode_utf8_acceptRanges), ("unicode/utf8.first", laid_unicode_utf8_first)], narrowed := true }
def RowSumsUptoSaid : Prop := rowSumsUptoRow.holds Tryz.pinned (OpenSpec.upto rowSumsSpec)

/-- 'retrospectlaw11.RowMixes', WHERE WHAT IT READS IS OF BULK AT MOST 1048576: true; the input reads as it did. -/
def rowMixesUptoRow : OpenClaim := { program := "ythgldcflcmlgpaagreatdoor", sum := "c651383b7cf47aaad6f6931f1c1e8dc072fc0893a108b3e9f40fc3b3b1d800a7", func := "retrospect/retrospectlaw11.RowMixes", spec := "rowMixes", inPlace := ["internal/bytealg.CountString", "internal/bytealg.IndexByteString", "internal/bytealg.IndexString", "internal/abi.NoEscape", "internal/bytealg.MakeNoZero"], named := ["unicode/utf8.first", "unicode/utf8.acceptRanges", "internal/bytealg.MaxLen"], apart := false, laid := [("unicode/utf8.acceptRanges", laid_unicode_utf8_acceptRanges), ("unicode/utf8.first", laid_unicode_utf8_first)], narrowed := true }
def RowMixesUptoSaid : Prop := rowMixesUptoRow.holds Tryz.pinned (OpenSpec.upto rowMixesSpec)

/-- 'retrospectlaw11.RowShares', WHERE WHAT IT READS IS OF BULK AT MOST 1048576: true; the input reads as it did. -/
def rowSharesUptoRow : OpenClaim := { program := "ythgldcflcmlgpaagreatdoor", sum := "c651383b7cf47aaad6f6931f1c1e8dc072fc0893a108b3e9f40fc3b3b1d800a7", func := "retrospect/retrospectlaw11.RowShares", spec := "rowShares", inPlace := ["internal/bytealg.CountString", "internal/bytealg.IndexByteString", "internal/bytealg.IndexString", "internal/abi.NoEscape", "internal/bytealg.MakeNoZero"], named := ["unicode/utf8.first", "unicode/utf8.acceptRanges", "internal/bytealg.MaxLen"], apart := false, laid := [("unicode/utf8.acceptRanges", laid_unicode_utf8_acceptRanges), ("unicode/utf8.first", laid_unicode_utf8_first)], narrowed := true }
def RowSharesUptoSaid : Prop := rowSharesUptoRow.holds Tryz.pinned (OpenSpec.upto rowSharesSpec)

/-- 'retrospectlaw11.RowTells', WHERE WHAT IT READS IS OF BULK AT MOST 1048576: true; the input reads as it did. -/
def rowTellsUptoRow : OpenClaim := { program := "ythgldcflcmlgpaagreatdoor", sum := "c651383b7cf47aaad6f6931f1c1e8dc072fc0893a108b3e9f40fc3b3b1d800a7", func := "retrospect/retrospectlaw11.RowTells", spec := "rowTells", inPlace := ["internal/bytealg.CountString", "internal/bytealg.IndexByteString", "internal/bytealg.IndexString", "internal/abi.NoEscape", "internal/bytealg.MakeNoZero"], named := ["unicode/utf8.first", "unicode/utf8.acceptRanges", "internal/bytealg.MaxLen"], apart := false, laid := [("unicode/utf8.acceptRanges", laid_unicode_utf8_acceptRanges), ("unicode/utf8.first", laid_unicode_utf8_first)], narrowed := true }
def RowTellsUptoSaid : Prop := rowTellsUptoRow.holds Tryz.pinned (OpenSpec.upto rowTellsSpec)

end Rows
end Go.Proofs.YthgldcflcmlgpaaGreatDoor
