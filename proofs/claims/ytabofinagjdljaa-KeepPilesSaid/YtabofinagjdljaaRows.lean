/-
  No cell of these rows narrows 'for every input' (looked for: loops, veiled, ifaces, maps, wideKeys, modest, calm, conditions, laid).
  DERIVED. THE GIVEN ROWS OF THIS SEAT. 2 by the template 'for every input the law returns true; each argument reads behind the call as it read before'; 0 by the template 'total and deterministic' (their statements: YtabofinagjdljaaTotals.lean).
  GIVEN WITH THE SEED: the statements are not yours to turn. If you find one false, say at which input.
  Laid BY PROGRAM, IN A SANDBOX (cutbox-rows.mjs): the forced cells as the released guide's own fill.sh prints them over the translation b94f3c5569880827… (all of the seat's roots in one cut). By AI agents, Wed Nov 11 2026. No macro, syntax, notation, axiom, sorry.
-/
import Derived.Test.YtabofinagjdljaaChecked
import GoSem.Claim
import GoSem.ClaimJoined
import GoSem.ClaimMapViews
import Derived.JoinedTies
import Derived.KernelRfl
namespace Go.Proofs.Ytabofinagjdljaa
/- THE CELL 'sum', in the pinned program and in every row, IS THE sha256 OF THE DUMP (.gsa) THAT YtabofinagjdljaaProg.lean LOADS. Nothing in Lean hashes anything: it is a label: what it is worth is what the hold of that sum in a sandbox is worth. -/
noncomputable def Try.pinned : Pinned := { name := "ytabofinagjdljaa", sum := "b94f3c5569880827da0ff26c9083f449fd046ac53940be2f54a4c2d2916917e5", checked := Try.checked }
namespace Rows
def none {H : Type} : Left H := { results := [], args := [] }

/-- 'retrospectlaw43.KeepMarks': WHATEVER THE INPUT: true; the input reads as it did. -/
def keepMarksSpec : ChangeSpec := { name := "keepMarks", fn := fun _ => fun
  | [d1, d2] => { results := [.lit (.bool true)], args := [d1, d2] }
  | _ => none }
def keepMarksRow : OpenClaim := { program := "ytabofinagjdljaa", sum := "b94f3c5569880827da0ff26c9083f449fd046ac53940be2f54a4c2d2916917e5", func := "retrospect/retrospectlaw43.KeepMarks", spec := "keepMarks", apart := false }
def KeepMarksSaid : Prop := keepMarksRow.holds Try.pinned (OpenSpec.ofChange keepMarksSpec)

/-- ITS FALSE NEIGHBOUR: 'it returns false'. Refute it at one input. -/
def keepMarksWrong : ChangeSpec := { name := "keepMarks", fn := fun _ => fun
  | [d1, d2] => { results := [.lit (.bool false)], args := [d1, d2] }
  | _ => none }
def KeepMarksWrongFalsely : Prop := keepMarksRow.holds Try.pinned (OpenSpec.ofChange keepMarksWrong)

/-- 'retrospectlaw43.KeepPiles': WHATEVER THE INPUT: true; the input reads as it did. -/
def keepPilesSpec : ChangeSpec := { name := "keepPiles", fn := fun _ => fun
  | [d] => { results := [.lit (.bool true)], args := [d] }
  | _ => none }
def keepPilesRow : OpenClaim := { program := "ytabofinagjdljaa", sum := "b94f3c5569880827da0ff26c9083f449fd046ac53940be2f54a4c2d2916917e5", func := "retrospect/retrospectlaw43.KeepPiles", spec := "keepPiles", apart := false }
def KeepPilesSaid : Prop := keepPilesRow.holds Try.pinned (OpenSpec.ofChange keepPilesSpec)

/-- ITS FALSE NEIGHBOUR: 'it returns false'. Refute it at one input. -/
def keepPilesWrong : ChangeSpec := { name := "keepPiles", fn := fun _ => fun
  | [d] => { results := [.lit (.bool false)], args := [d] }
  | _ => none }
def KeepPilesWrongFalsely : Prop := keepPilesRow.holds Try.pinned (OpenSpec.ofChange keepPilesWrong)

/- THE SECOND FORM. 'bulk': how many values and letters a reading holds, each counted each time it is reached (what is shared counts as often as it is met; a slice's spare places count too). A statement '..UptoSaid' is the law's where the arguments, and the package variables that the reading takes, are together of bulk at most 1048576: NARROWER than '..Said'. Prove '..Said' where nothing that the law and all that it calls make is longer than what came in: it says more and counts as full. Else prove '..UptoSaid'. A law counts once. -/
mutual
def uptoBulk {H : Type} : DataW H → Nat
  | .lit (.string bytes) => bytes.length + 1
  | .lit _ => 1
  | .nil => 1
  | .ptr d => uptoBulk d + 1
  | .slice elems spare => uptoBulkAll elems + uptoBulkAll spare + 1
  | .agg parts => uptoBulkAll parts + 1
  | .iface _ d => uptoBulk d + 1
  | .map entries => uptoBulkEntries entries + 1
  | .held _ => 1
def uptoBulkAll {H : Type} : List (DataW H) → Nat
  | [] => 0
  | d :: r => uptoBulk d + uptoBulkAll r
def uptoBulkEntries {H : Type} : List (Lit × DataW H) → Nat
  | [] => 0
  | x :: r => uptoBulkEntry x + uptoBulkEntries r
def uptoBulkEntry {H : Type} : Lit × DataW H → Nat
  | (.string bytes, d) => bytes.length + uptoBulk d + 1
  | (_, d) => uptoBulk d + 1
 end
def uptoSmall : (H : Type) → List (DataW H) → Bool := fun _ ds => decide (uptoBulkAll ds ≤ 1048576)
def OpenSpec.upto (s : _root_.Go.ChangeSpec) : _root_.Go.OpenSpec := { _root_.Go.OpenSpec.ofChange s with cond := some uptoSmall }

/-- 'retrospectlaw43.KeepMarks', WHERE WHAT IT READS IS OF BULK AT MOST 1048576: true; the input reads as it did. -/
def keepMarksUptoRow : OpenClaim := { program := "ytabofinagjdljaa", sum := "b94f3c5569880827da0ff26c9083f449fd046ac53940be2f54a4c2d2916917e5", func := "retrospect/retrospectlaw43.KeepMarks", spec := "keepMarks", apart := false, narrowed := true }
def KeepMarksUptoSaid : Prop := keepMarksUptoRow.holds Try.pinned (OpenSpec.upto keepMarksSpec)

/-- 'retrospectlaw43.KeepPiles', WHERE WHAT IT READS IS OF BULK AT MOST 1048576: true; the input reads as it did. -/
def keepPilesUptoRow : OpenClaim := { program := "ytabofinagjdljaa", sum := "b94f3c5569880827da0ff26c9083f449fd046ac53940be2f54a4c2d2916917e5", func := "retrospect/retrospectlaw43.KeepPiles", spec := "keepPiles", apart := false, narrowed := true }
def KeepPilesUptoSaid : Prop := keepPilesUptoRow.holds Try.pinned (OpenSpec.upto keepPilesSpec)

end Rows
end Go.Proofs.Ytabofinagjdljaa
