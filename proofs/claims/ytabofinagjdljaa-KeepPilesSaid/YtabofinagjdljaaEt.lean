/- From a contract to a row's step. -/
import Derived.Test.YtabofinagjdljaaEs
import Derived.Test.YtabofinagjdljaaRows
import Derived.WalkKit
import Derived.ProofKit
import Derived.OpenShut
import Derived.Carry
set_option linter.unusedVariables false
set_option linter.unusedSimpArgs false
namespace Go.Proofs.YtabofinagjdljaaE
open Go.ChangeShapes Go.WideShapes Go.ChangeAt Go.RowKit

/-- What is handed over when a law is entered: trees alone. -/
def lawCtx (W : World) : Ctx := ⟨W, fun _ _ => False, fun _ => True, 0, fun _ => none, fun _ => none⟩
def lawEnv (W : World) : Env := env (lawCtx W) (fun _ => none) (stOf []) W

theorem entry_law {W : World} {ps : List PV} {args : Array Value} (hs : args.size = ps.length) (h : ∀ j, j < ps.length → VR (lawEnv W) (ps.getD j .any) (args.getD j undef)) : Entry (lawCtx W) (fun _ => none) ps [] args :=
  ⟨hs, h, ⟨fun id blk hb => by simp [env, stOf] at hb, fun id id' blk blk' g o o' hb => by simp [env, stOf] at hb⟩, fun id g h => h.elim⟩

theorem law_calls {P : Program} {f : FuncId} {ps : List PV} {b : Bool} (hc : CallOk P f ps [] (.bool b) []) {W : World} {args : Array Value} (hs : args.size = ps.length) (h : ∀ j, j < ps.length → VR (lawEnv W) (ps.getD j .any) (args.getD j undef)) :
    Calls P f args W fun e W' => e = .returned (.bool b) ∧ Below W.heap.size W W' :=
  (hc (lawCtx W) (fun _ => none) args (entry_law hs h)).mono fun e W' ⟨v, β', he, hL⟩ => by
    subst he
    rw [hL.vr.bool_inv]
    refine ⟨rfl, Keeps.below (B := W.heap.size) ?_⟩
    have hk := hL.keeps
    refine ⟨hk.os, hk.tape, hk.output, hk.size, fun k h1 h2 => hk.block k h1 fun ⟨id, h⟩ => h, hk.room⟩

theorem Below.trodAll {H : Type} {enc : TypeId × Value → H} {P : Program} (hl : laidOutB P = true) {W W' : World} (hb : Below W.heap.size W W') : ∀ {ts : List TypeId} {vs : List Value} {ds : List (DataW H)} {ps : List MemPlace},
    (ts.all fun t => P.readableRec t && decide (t < P.types.size)) = true → DataW.TrodAll enc P W 0 (fun _ => true) true ts vs ds ps → (∀ x ∈ ps, x.block < W.heap.size) → DataW.TrodAll enc P W' 0 (fun b => decide (b < W.heap.size)) true ts vs ds ps
  | [], [], [], ps, _, h, _ => h
  | t :: ts, v :: vs, d :: ds, ps, hr, h, hlt => by
    obtain ⟨p, q, h1, h2, rfl⟩ := h
    simp only [List.all_cons, Bool.and_eq_true, decide_eq_true_eq] at hr
    obtain ⟨⟨r1, r2⟩, r3⟩ := hr
    exact ⟨p, q, Below.trod hl r1 r2 h1 hb (fun x hx => hlt x (List.mem_append.2 (.inl hx))), Below.trodAll hl hb r3 h2 (fun x hx => hlt x (List.mem_append.2 (.inr hx))), rfl⟩
  | [], [], _ :: _, _, _, h, _ => h.elim
  | [], _ :: _, _, _, _, h, _ => h.elim
  | _ :: _, [], _, _, _, h, _ => h.elim
  | _ :: _, _ :: _, [], _, _, h, _ => h.elim

theorem law_post {H : Type} {enc : TypeId × Value → H} {P : Program} {fn : Func} {s : ChangeSpec} {W W' : World} {args : Array Value} {ds gs : List (DataW H)} {before : List MemPlace} {tb : TypeId} (hl : laidOutB P = true)
    (hr : (fn.params.toList.all fun t => P.readableRec t && decide (t < P.types.size)) = true) (hv : s.vars = []) (ht : fn.resultTypes = #[tb]) (hu : P.underlying tb = some .bool)
    (hW : DataW.Whole enc P fn.params.toList s.vars false W args.toList ds gs before) (hs1 : (s.fn H (ds ++ gs)).results = [.lit (.bool true)]) (hs2 : (s.fn H (ds ++ gs)).args = ds) (hs3 : (s.fn H (ds ++ gs)).vars = [])
    (hb : Below W.heap.size W W') : s.post enc P fn false true false false W args (.bool true) W' := by
  have hW' := hW
  obtain ⟨p, q, h1, h2, h3, h4, h5⟩ := hW
  rw [hv] at h2
  have hq : q = [] := by
    cases gs with
    | nil => exact h2
    | cons g gs => exact h2.elim
  subst hq
  rw [List.append_nil] at h3
  subst h3
  refine ⟨ds, gs, before, [], before, [], hW', ?_, ?_, ?_, World.keptBut_mono (fun _ hf => hf.elim) (hb.frame fun _ => False), nofun⟩
  · rw [hs1, ht]
    exact trodAll_cons_mk (shut_bool hu _) trodAll_mk0
  · rw [hs2]
    exact Below.trodAll hl hb hr h1 (fun x hx => by simpa using hW'.lt x hx)
  · rw [hs3, hv]; rfl
end Go.Proofs.YtabofinagjdljaaE
