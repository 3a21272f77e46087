import Derived.Test.YthgldcflcmlgpaaGreatDoorCards
import Derived.Test.YthgldcflcmlgpaaGreatDoorTie
import Derived.Deep.DeepHandedRow
import Derived.Lib.LaidTab
import Derived.Test.YthgldcflcmlgpaaGreatDoorM0
import Derived.Test.YthgldcflcmlgpaaGreatDoorM1
import Derived.Test.YthgldcflcmlgpaaGreatDoorM2
import Derived.Test.YthgldcflcmlgpaaGreatDoorM3
import Derived.Test.YthgldcflcmlgpaaGreatDoorM4
import Derived.Test.YthgldcflcmlgpaaGreatDoorM5
import Derived.Test.YthgldcflcmlgpaaGreatDoorM6
/-
  The statement 'Rows.SpanCubicsCardSaid': for every input retrospectlaw41.SpanCubics returns true, and its arguments read as before.
-/
set_option linter.unusedVariables false
set_option maxRecDepth 100000
set_option linter.unusedSimpArgs false
namespace Go.Proofs.YthgldcflcmlgpaaGreatDoor.spanCubics
open Go.ChangeShapes Go.WideShapes Go.ChangeAt Go.RowKit Go.Proofs.YthgldcflcmlgpaaGreatDoorE
theorem own : ownKnob Tryz.prog.godebug = none := by kernel_rfl
theorem laidOut : laidOutB Tryz.prog = true := by kernel_rfl
theorem zjo : closedB Tryz.prog [27, 24, 4, 22, 104, 25] = true := by kernel_rfl
theorem contract (H : Type) (enc : TypeId × Value → H) (W : World) (base : Nat) (args : Array Value) (ds gs : List (DataW H)) (before : List MemPlace)
    (hval : ∀ (j : Nat) t v, Tryz.f3.params[j]? = some t → args[j]? = some v → Value.okWide Tryz.prog W .any base t v)
    (hW : DataW.Whole enc Tryz.prog Tryz.f3.params.toList Rows.spanCubicsSpec.vars false W args.toList ds gs before)
    (hz : (DataW.weightsEach Tryz.prog Tryz.f3.params.toList ds).all (fun n => decide (n ≤ reachBytes)) = true) :
    Calls Tryz.prog 3 args W fun e W' => ∃ v, e = .returned v ∧ Rows.spanCubicsSpec.post enc Tryz.prog Tryz.f3 false true false false W args v W' := by
  have hW' := hW
  obtain ⟨p, q, hA0, hV, rfl, hfz, hnd⟩ := hW
  have hA : DataW.TrodAll enc Tryz.prog W 0 (fun _ => true) true Tryz.f3.params.toList args.toList ds p := hA0
  rw [Tryz.params3] at hA hval hz
  obtain ⟨v0, vs0, d0, ds0, p0, q0, hargs, rfl, rfl, h0, r0⟩ := trodAll_cons hA
  obtain ⟨v1, vs1, d1, ds1, p1, q1, hargs1, rfl, rfl, h1, r1⟩ := trodAll_cons r0
  obtain ⟨hnil, rfl, rfl⟩ := trodAll_nil r1
  obtain rfl : args = #[v0, v1] := by cases args; simp_all
  obtain ⟨rfl, rfl⟩ := trodVars_none hV
  have l0 := zlv hz (i := 0) (t := 27) (d := d0) rfl rfl
  obtain ⟨cs0, rfl, _⟩ := okWide_struct (P := Tryz.prog) (t := 27) rfl (hval 0 27 v0 rfl rfl)
  obtain ⟨n0, L0, hv0, hs0⟩ := zok zjo (by decide) h0 l0
  have l1 := zlv hz (i := 1) (t := 24) (d := d1) rfl rfl
  obtain ⟨cs1, rfl, _⟩ := okWide_struct (P := Tryz.prog) (t := 24) rfl (hval 1 24 v1 rfl rfl)
  obtain ⟨n1, L1, hv1, hs1⟩ := zok zjo (by decide) h1 l1
  refine (law_calls (spanCubics_of hs0 hs1) rfl ?_).mono fun e W' ⟨he, hb⟩ => ?_
  · intro j hj
    rcases j with _ | _ | j
    · exact hv0
    · exact hv1
    · simp at hj; omega
  · subst he
    exact ⟨_, rfl, law_post (tb := 4) laidOut (by kernel_rfl) rfl rfl (by rfl) hW' rfl rfl rfl hb⟩
/-! a world for the witness -/
def lits1 : DataW Unit → List Value
  | .lit (.int k n) => [.int k n]
  | _ => []
def lits2 : DataW Unit → List Value
  | .agg l => l.flatMap lits1
  | d => lits1 d
def lits3 : DataW Unit → List Value
  | .agg l => l.flatMap lits2
  | d => lits2 d
def zeros : Array Value := #[.agg #[.bool false, .slice none 0 0, .slice none 0 0, .bool false, .slice none 0 0, .slice none 0 0, .slice none 0 0, .slice none 0 0, .slice none 0 0, .slice none 0 0], .agg #[.bool false, .slice none 0 0, .slice none 0 0]]
def putCells (cs : List Value) : Obj → Obj
  | .cells _ t frozen => .cells cs.toArray t frozen
  | o => o
noncomputable def laidWorld (os : Os) : World :=
  { World.holding Tryz.prog os ⟨#[], #[], []⟩ with heap := ((World.holding Tryz.prog os ⟨#[], #[], []⟩).heap.modify 1 (putCells (lits3 Rows.laid_unicode_utf8_first))).modify 2 (putCells (lits3 Rows.laid_unicode_utf8_acceptRanges)) }
theorem laid_met (os : Os) : laidMet Tryz.prog Rows.spanCubicsRow.laid ((laidWorld os).forCall (fun _ _ => 0) ⟨#[], zeros, []⟩).memory :=
  laidMet_of_run' 8 (by kernel_rfl) (by kernel_rfl)
theorem reads (os : Os) {H : Type} (enc : TypeId × Value → H) : ∃ places, DataW.whole enc Tryz.prog ((laidWorld os).forCall (fun _ _ => 0) ⟨#[], zeros, []⟩).memory Tryz.f3.params.toList Rows.spanCubicsSpec.vars false zeros.toList 8 = some ([.agg [.agg [.lit (.bool false), .nil, .nil], .agg [.lit (.bool false), .nil, .nil], .nil, .nil, .nil, .nil], .agg [.lit (.bool false), .nil, .nil]], [], places) :=
  ⟨[], by kernel_rfl⟩
theorem lifted (os : Os) (started : os.Started) (H : Type) (enc : TypeId × Value → H) (F : Stop.Interp) :
    ReturnsInHanded {} Tryz.checked os 3 .any ((OpenSpec.ofChange Rows.spanCubicsSpec).preRow enc Tryz.prog Tryz.f3 Rows.spanCubicsRow.domain false Rows.spanCubicsRow.laid) (((OpenSpec.ofChange Rows.spanCubicsSpec).at F).post enc Tryz.prog Tryz.f3 false true false false) := by
  obtain ⟨places, hx⟩ := reads os enc
  refine returnsInHanded_of_row (C := Tryz.checked) (s := OpenSpec.ofChange Rows.spanCubicsSpec) own started (by kernel_rfl) Tryz.func3
    (witness_row_at (enc := enc) (C := Tryz.checked) false (laidWorld os) zeros rfl (by kernel_rfl) (by kernel_rfl) (by kernel_rfl)
      (OpenSpec.preRow_of_cond 8 hx (by kernel_rfl) (fun k hk => by cases hk) (by kernel_rfl) (laid_met os))) ?_
  intro W base args ds gs before hval hW _ _ hz hL _ _
  have hgs : gs = [] := by
    obtain ⟨p, q, _, hV, _⟩ := hW
    exact (trodVars_none hV).1
  subst hgs
  have hz' : (DataW.weightsEach Tryz.prog Tryz.f3.params.toList ds).all (fun n => decide (n ≤ reachBytes)) = true := by
    have e1 : ds ++ [] = ds := List.append_nil ds
    have e2 : Tryz.f3.params.toList ++ (OpenSpec.ofChange Rows.spanCubicsSpec).bare.plain.varTypes Tryz.checked.prog = Tryz.f3.params.toList := List.append_nil _
    rw [e1, e2] at hz
    exact hz
  exact contract H enc W base args ds [] before hval hW hz'
theorem said : Rows.SpanCubicsSaid :=
  OpenClaim.holds_of_cond 3 Tryz.f3 rfl rfl rfl rfl rfl rfl rfl ⟨rfl, rfl, rfl, rfl, rfl⟩ rfl rfl rfl rfl rfl (by kernel_rfl) Tryz.func3 (by kernel_rfl)
    (of_decide_eq_true (by kernel_rfl)) (by unfold Func.isWrapper; first | (rw [if_pos (by decide +kernel)]; kernel_rfl) | (rw [if_neg (by decide +kernel)]; exact ⟨rfl, rfl⟩))
    (fun os started H enc _ F => by rw [OpenClaim.pre_eq_preRow]; exact lifted os started H enc F)
theorem plain (f : FuncId) (fn : Func) (hf : Tryz.pinned.checked.prog.funcNamed "retrospect/retrospectlaw41.SpanCubics" = some f) (hfn : Tryz.pinned.checked.prog.funcs[f]? = some fn) :
    false = Tryz.pinned.checked.prog.looks [] ∧ ∀ (j : Nat) t, fn.params[j]? = some t → Tryz.pinned.checked.prog.wantsStandIn t = false := by
  obtain rfl : f = 3 := Option.some.inj ((show Tryz.prog.funcNamed "retrospect/retrospectlaw41.SpanCubics" = some 3 by kernel_rfl).symm.trans hf) |>.symm
  obtain rfl : fn = Tryz.f3 := (Option.some.inj (Tryz.func3.symm.trans hfn)).symm
  refine ⟨by kernel_rfl, fun j t ht => ?_⟩
  rw [Tryz.params3] at ht
  have hm := Array.mem_of_getElem? ht
  simp at hm
  have key : ∀ t ∈ [27, 24], Tryz.prog.wantsStandIn t = false := by
    intro t ht; simp at ht
    rcases ht with rfl | rfl <;> kernel_rfl
  refine key t ?_
  simp; omega
theorem card : Rows.SpanCubicsCardSaid :=
  Claim7.holds_tied_plain_at .later [] _ _ _ _ said (fun _ h => by cases h) (by kernel_rfl) (fun _ h => by cases h) spanCubics_row_tie rfl ⟨rfl, rfl⟩ (by kernel_rfl) rfl plain (by kernel_rfl)
#print axioms card
end Go.Proofs.YthgldcflcmlgpaaGreatDoor.spanCubics
