/- Contracts out of code, and calls by contract, in the form in which they are worked out. -/
import Derived.Test.YtabofinagjdljaaEr
set_option linter.unusedVariables false
set_option linter.unusedSimpArgs false
namespace Go.Proofs.YtabofinagjdljaaE
open Go.RowKit

def endR (P : Program) (rs : List ResultVar) (n : Nat) (r : PV) (rb : List Blk) (ret : List Id) (s : St) : Prop :=
  match resA P s rs with
  | some r0 => match expP s.store ret r0, expBs s.store ret ret with
    | some (r1, tl), some (rb1, tl') => r1 = r ∧ rb1 = rb ∧ ret.Nodup ∧ (∀ j, j < n → ret[j]? = some ⟨0, 0, j⟩) ∧ (∀ id ∈ tl ++ tl', id ∉ ret)
    | _, _ => False
  | none => False

def endK (P : Program) (rs : List ResultVar) (n : Nat) (r : PV) (rb : List Blk) : Exit → St → Prop
  | .normal, s | .ret, s => ∃ ret, endR P rs n r rb ret s
  | _, _ => False

theorem CallOk.of_wpK {P : Program} {f : FuncId} {fn : Func} {code : Code} {ps : List PV} {ib : List Blk} {r : PV} {rb : List Blk} {nt : Nat} {rs : List ResultVar} (hf : P.funcs[f]? = some fn) (hb : fn.body = some code) (hnt : fn.ntmps = nt)
    (hrs : fn.results.toList = rs) (hn : ps.length ≤ nt) (h : WP P nt code (endK P rs ib.length r rb) (st0 ps ib)) : CallOk P f ps ib r rb := by
  subst hnt
  subst hrs
  refine CallOk.of_wp hf hb hn (h.mono fun e s hq => ?_)
  cases e <;> simp only [endK] at hq <;> simp only [endQ]
  all_goals
    obtain ⟨ret, hq⟩ := hq
    unfold endR at hq
    split at hq
    · rename_i r0 h0
      split at hq
      · rename_i r1 tl rb1 tl' h1 h2
        obtain ⟨rfl, rfl, h3, h4, h5⟩ := hq
        exact ⟨r0, ret, tl, tl', h0, h1, h2, h3, h4, h5⟩
      · exact hq.elim
    · exact hq.elim

theorem callK {P : Program} {o : Oper} {s : St} {K : Eff → Prop} {f : FuncId} {args : Array Operand} {at_ : Array TypeId} {d : Nat} {ps : List PV} {ib : List Blk} {r : PV} {rb : List Blk} (io tl1 tl2 : List Id) (fz : Bool) (hc : CallOk P f ps ib r rb) (hf : FnOk P f)
    (hside : (cellP r && rb.all (fun b => b.flat || b.cells.all cellB) && decide (io.length ≤ rb.length) && (fz || (rb.isEmpty && scalarP r))) = true)
    (ho : o.op = .call { callee := .value (.func f), args := args, argTypes := at_ }) (hd : o.dst = some d)
    (h1 : expL (expA s.store io) (args.toList.map (pv s.frame)) = some (ps, tl1)) (h2 : expBs s.store io io = some (ib, tl2)) (h3 : io.Nodup) (h4 : ∀ id ∈ tl1 ++ tl2, id ∉ io)
    (h5 : K (callE io (tl1 ++ tl2) d (s.gens d) r rb fz s.store)) : contK P o s none K := by
  show ∃ e, OpEff P o s e ∧ K e
  simp only [Bool.and_eq_true, decide_eq_true_eq, List.all_eq_true, Bool.or_eq_true] at hside
  obtain ⟨⟨⟨s1, s2⟩, s3⟩, s4⟩ := hside
  have key := opEff_call (P := P) (o := o) (s := s) ho (by rfl) hf h1 h2 h3 h4 hc s1 (fun b hb => by
    rcases s2 b hb with h | h
    · exact .inl h
    · exact .inr (List.all_eq_true.2 h)) s3 (.inr (by rw [hd]; simp)) (fz := fz) (by
    rcases s4 with h | ⟨h, h'⟩
    · exact .inl h
    · exact .inr ⟨by simpa using h, h'⟩) ⟨d, hd⟩
  rw [hd] at key
  exact ⟨_, key, h5⟩

/-- Two pieces of code with a condition between them. -/
theorem WP.seqI {P : Program} {nt : Nat} {x y : Code} {Q : Exit → St → Prop} {s : St} (J : St → Prop) (h1 : WP P nt x (thenQ J Q) s) (h2 : ∀ s', J s' → WP P nt y Q s') : WP P nt (.seq x y) Q s :=
  WP.seq (h1.mono fun e s' h => by cases e <;> first | exact h2 _ h | exact h)
/-- Like a state, as far as one looks. -/
theorem WP.abs {P : Program} {nt : Nat} {c : Code} {Q : Exit → St → Prop} {s : St} (h : ∀ s2 : St, s2.frame = s.frame → s2.store = s.store → s2.gens = s.gens → WP P nt c Q s2) : WP P nt c Q s := h s rfl rfl rfl
end Go.Proofs.YtabofinagjdljaaE
