/-
  DERIVED. GIVEN WITH THE SEED: THE CARDS: each row of YthgldcflcmlgpaaGreatDoorRows.lean that lists a variable, with what it lists TIED to the program's text (the seventh form; the later family's looks); each row that meets fmt, with fmt's text TOLD by the authors' own Lean function (tested against real Go, not proved from fmt's source: count such statements apart). THE CARD IS WHAT COUNTS. Prove the row's statement (the work); the ties are given (YthgldcflcmlgpaaGreatDoorTie.lean); close each card by the builder's one call (the guide's Derived/Test/ToyasCard.lean, 'card_holds'). Laid BY PROGRAM, IN A SANDBOX (cutbox-door.mjs). By AI agents, Wed Nov 11 2026. No macro, syntax, notation, axiom, sorry.
-/
import Derived.Test.YthgldcflcmlgpaaGreatDoorRows
import GoSem.ClaimSeven
namespace Go.Proofs.YthgldcflcmlgpaaGreatDoor
namespace Rows

/-- THE TIED CARD OF 'retrospectlaw41.SpanCubics'. -/
def spanCubicsCard : Claim7 := { stood := { row := spanCubicsRow, standIns := [], harness := (true, "50b9cedb2015575991b5d284a2f0a5f6d6ee7280da39f1fad37b3f3a1ba4e150"), looks := false }, kinds := [], alts := [], laidByText := true, laidKinds := [.data, .pinned], laidTests := true, laidLooks := .later }
def SpanCubicsCardSaid : Prop := Claim7.holds Tryz.pinned (.plain (OpenSpec.ofChange spanCubicsSpec)) spanCubicsCard

/-- THE TIED CARD OF 'retrospectlaw41.SpanPolys'. -/
def spanPolysCard : Claim7 := { stood := { row := spanPolysRow, standIns := [], harness := (true, "50b9cedb2015575991b5d284a2f0a5f6d6ee7280da39f1fad37b3f3a1ba4e150"), looks := false }, kinds := [], alts := [], laidByText := true, laidKinds := [.data, .pinned], laidTests := true, laidLooks := .later }
def SpanPolysCardSaid : Prop := Claim7.holds Tryz.pinned (.plain (OpenSpec.ofChange spanPolysSpec)) spanPolysCard

/-- THE TIED CARD OF 'retrospectlaw11.RowTexts'. -/
def rowTextsCard : Claim7 := { stood := { row := rowTextsRow, standIns := [], harness := (true, "50b9cedb2015575991b5d284a2f0a5f6d6ee7280da39f1fad37b3f3a1ba4e150"), looks := false }, kinds := [], alts := [], laidByText := true, laidKinds := [.data, .pinned], laidTests := true, laidLooks := .later }
def RowTextsCardSaid : Prop := Claim7.holds Tryz.pinned (.plain (OpenSpec.ofChange rowTextsSpec)) rowTextsCard

/-- THE TIED CARD OF 'retrospectlaw11.RowBack'. -/
def rowBackCard : Claim7 := { stood := { row := rowBackRow, standIns := [], harness := (true, "50b9cedb2015575991b5d284a2f0a5f6d6ee7280da39f1fad37b3f3a1ba4e150"), looks := false }, kinds := [], alts := [], laidByText := true, laidKinds := [.data, .pinned], laidTests := true, laidLooks := .later }
def RowBackCardSaid : Prop := Claim7.holds Tryz.pinned (.plain (OpenSpec.ofChange rowBackSpec)) rowBackCard

/-- THE TIED CARD OF 'retrospectlaw11.RowSums'. -/
def rowSumsCard : Claim7 := { stood := { row := rowSumsRow, standIns := [], harness := (true, "50b9cedb2015575991b5d284a2f0a5f6d6ee7280da39f1fad37b3f3a1ba4e150"), looks := false }, kinds := [], alts := [], laidByText := true, laidKinds := [.data, .pinned], laidTests := true, laidLooks := .later }
def RowSumsCardSaid : Prop := Claim7.holds Tryz.pinned (.plain (OpenSpec.ofChange rowSumsSpec)) rowSumsCard

/-- THE TIED CARD OF 'retrospectlaw11.RowMixes'. -/
def rowMixesCard : Claim7 := { stood := { row := rowMixesRow, standIns := [], harness := (true, "50b9cedb2015575991b5d284a2f0a5f6d6ee7280da39f1fad37b3f3a1ba4e150"), looks := false }, kinds := [], alts := [], laidByText := true, laidKinds := [.data, .pinned], laidTests := true, laidLooks := .later }
def RowMixesCardSaid : Prop := Claim7.holds Tryz.pinned (.plain (OpenSpec.ofChange rowMixesSpec)) rowMixesCard

/-- THE TIED CARD OF 'retrospectlaw11.RowShares'. -/
def rowSharesCard : Claim7 := { stood := { row := rowSharesRow, standIns := [], harness := (true, "50b9cedb2015575991b5d284a2f0a5f6d6ee7280da39f1fad37b3f3a1ba4e150"), looks := false }, kinds := [], alts := [], laidByText := true, laidKinds := [.data, .pinned], laidTests := true, laidLooks := .later }
def RowSharesCardSaid : Prop := Claim7.holds Tryz.pinned (.plain (OpenSpec.ofChange rowSharesSpec)) rowSharesCard

/-- THE TIED CARD OF 'retrospectlaw11.RowTells'. -/
def rowTellsCard : Claim7 := { stood := { row := rowTellsRow, standIns := [], harness := (true, "50b9cedb2015575991b5d284a2f0a5f6d6ee7280da39f1fad37b3f3a1ba4e150"), looks := false }, kinds := [], alts := [], laidByText := true, laidKinds := [.data, .pinned], laidTests := true, laidLooks := .later }
def RowTellsCardSaid : Prop := Claim7.holds Tryz.pinned (.plain (OpenSpec.ofChange rowTellsSpec)) rowTellsCard

/-- THE SECOND FORM's CARD OF 'retrospectlaw41.SpanCubics'. -/
def spanCubicsUptoCard : Claim7 := { stood := { row := spanCubicsUptoRow, standIns := [], harness := (true, "50b9cedb2015575991b5d284a2f0a5f6d6ee7280da39f1fad37b3f3a1ba4e150"), looks := false }, kinds := [], alts := [], laidByText := true, laidKinds := [.data, .pinned], laidTests := true, laidLooks := .later }
def SpanCubicsUptoCardSaid : Prop := Claim7.holds Tryz.pinned (.plain (OpenSpec.upto spanCubicsSpec)) spanCubicsUptoCard

/-- THE SECOND FORM's CARD OF 'retrospectlaw41.SpanPolys'. -/
def spanPolysUptoCard : Claim7 := { stood := { row := spanPolysUptoRow, standIns := [], harness := (true, "50b9cedb2015575991b5d284a2f0a5f6d6ee7280da39f1fad37b3f3a1ba4e150"), looks := false }, kinds := [], alts := [], laidByText := true, laidKinds := [.data, .pinned], laidTests := true, laidLooks := .later }
def SpanPolysUptoCardSaid : Prop := Claim7.holds Tryz.pinned (.plain (OpenSpec.upto spanPolysSpec)) spanPolysUptoCard

/-- THE SECOND FORM's CARD OF 'retrospectlaw11.RowTexts'. -/
def rowTextsUptoCard : Claim7 := { stood := { row := rowTextsUptoRow, standIns := [], harness := (true, "50b9cedb2015575991b5d284a2f0a5f6d6ee7280da39f1fad37b3f3a1ba4e150"), looks := false }, kinds := [], alts := [], laidByText := true, laidKinds := [.data, .pinned], laidTests := true, laidLooks := .later }
def RowTextsUptoCardSaid : Prop := Claim7.holds Tryz.pinned (.plain (OpenSpec.upto rowTextsSpec)) rowTextsUptoCard

/-- THE SECOND FORM's CARD OF 'retrospectlaw11.RowBack'. -/
def rowBackUptoCard : Claim7 := { stood := { row := rowBackUptoRow, standIns := [], harness := (true, "50b9cedb2015575991b5d284a2f0a5f6d6ee7280da39f1fad37b3f3a1ba4e150"), looks := false }, kinds := [], alts := [], laidByText := true, laidKinds := [.data, .pinned], laidTests := true, laidLooks := .later }
def RowBackUptoCardSaid : Prop := Claim7.holds Tryz.pinned (.plain (OpenSpec.upto rowBackSpec)) rowBackUptoCard

/-- THE SECOND FORM's CARD OF 'retrospectlaw11.RowSums'. -/
def rowSumsUptoCard : Claim7 := { stood := { row := rowSumsUptoRow, standIns := [], harness := (true, "50b9cedb2015575991b5d284a2f0a5f6d6ee7280da39f1fad37b3f3a1ba4e150"), looks := false }, kinds := [], alts := [], laidByText := true, laidKinds := [.data, .pinned], laidTests := true, laidLooks := .later }
def RowSumsUptoCardSaid : Prop := Claim7.holds Tryz.pinned (.plain (OpenSpec.upto rowSumsSpec)) rowSumsUptoCard

/-- THE SECOND FORM's CARD OF 'retrospectlaw11.RowMixes'. -/
def rowMixesUptoCard : Claim7 := { stood := { row := rowMixesUptoRow, standIns := [], harness := (true, "50b9cedb2015575991b5d284a2f0a5f6d6ee7280da39f1fad37b3f3a1ba4e150"), looks := false }, kinds := [], alts := [], laidByText := true, laidKinds := [.data, .pinned], laidTests := true, laidLooks := .later }
def RowMixesUptoCardSaid : Prop := Claim7.holds Tryz.pinned (.plain (OpenSpec.upto rowMixesSpec)) rowMixesUptoCard

/-- THE SECOND FORM's CARD OF 'retrospectlaw11.RowShares'. -/
def rowSharesUptoCard : Claim7 := { stood := { row := rowSharesUptoRow, standIns := [], harness := (true, "50b9cedb2015575991b5d284a2f0a5f6d6ee7280da39f1fad37b3f3a1ba4e150"), looks := false }, kinds := [], alts := [], laidByText := true, laidKinds := [.data, .pinned], laidTests := true, laidLooks := .later }
def RowSharesUptoCardSaid : Prop := Claim7.holds Tryz.pinned (.plain (OpenSpec.upto rowSharesSpec)) rowSharesUptoCard

/-- THE SECOND FORM's CARD OF 'retrospectlaw11.RowTells'. -/
def rowTellsUptoCard : Claim7 := { stood := { row := rowTellsUptoRow, standIns := [], harness := (true, "50b9cedb2015575991b5d284a2f0a5f6d6ee7280da39f1fad37b3f3a1ba4e150"), looks := false }, kinds := [], alts := [], laidByText := true, laidKinds := [.data, .pinned], laidTests := true, laidLooks := .later }
def RowTellsUptoCardSaid : Prop := Claim7.holds Tryz.pinned (.plain (OpenSpec.upto rowTellsSpec)) rowTellsUptoCard
end Rows
end Go.Proofs.YthgldcflcmlgpaaGreatDoor
