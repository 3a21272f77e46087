/- A function's contract out of its code. -/
import Derived.Test.YtabofinagjdljaaEm
set_option linter.unusedVariables false
set_option linter.unusedSimpArgs false
namespace Go.Proofs.YtabofinagjdljaaE
open Go.RowKit

def resV (P : Program) (s : St) : ResultVar → Option PV
  | .tmp t => some (s.frame t)
  | .cell a ty =>
    match aggOf P ty, szOf P ty, s.frame a with
    | some b, some sz, .pt id ver off => (live s.store id ver).bind fun blk => loadL b sz (blk.cells.drop off)
    | _, _, _ => none

def resL (P : Program) (s : St) : List ResultVar → Option (List PV)
  | [] => some []
  | x :: r => match resV P s x, resL P s r with
    | some p, some l => some (p :: l)
    | _, _ => none

def resA (P : Program) (s : St) (l : List ResultVar) : Option PV :=
  match resL P s l with
  | some [p] => some p
  | some l => some (.tup l)
  | none => none

def resM (tmps : Array Value) : ResultVar → Sem Value
  | .tmp t => pure (tmps.getD t undef)
  | .cell p t => do loadVar t (← asAddr (tmps.getD p undef))
theorem results_eq (fn : Func) (tmps : Array Value) : results fn tmps = (do let vs ← fn.results.mapM (resM tmps); pure (if h : vs.size = 1 then vs[0] else .tuple vs)) := by
  unfold results
  congr 2

theorem run_resL {P : Program} {c : Ctx} {β : Id → Option (Nat × Nat)} {s : St} {a : Act} {w : World} (hr : RelB c β s a w) : ∀ {l : List ResultVar} {ps : List PV}, resL P s l = some ps →
    ∃ vs : List Value, (l.mapM (resM a.tmps)).run P w = .ok vs w ∧ vs.length = ps.length ∧ ∀ j, j < ps.length → VR (env c β s.store w) (ps.getD j .any) (vs.getD j undef)
  | [], ps, h => by injection h with h; subst h; exact ⟨[], rfl, rfl, by simp⟩
  | x :: l, ps, h => by
    simp only [resL] at h
    split at h
    · rename_i p ps' h1 h2
      injection h with h; subst h
      obtain ⟨vs, k1, k2, k3⟩ := run_resL (P := P) hr h2
      have hx : ∃ v, (resM a.tmps x).run P w = .ok v w ∧ VR (env c β s.store w) p v := by
        cases x with
        | tmp t => injection h1 with h1; subst h1; exact ⟨_, rfl, hr.frame t⟩
        | cell q ty =>
          simp only [resV] at h1
          split at h1
          · rename_i b sz id ver off ha hz hp
            cases hl : live s.store id ver with
            | none => rw [hl] at h1; cases h1
            | some blk =>
              rw [hl] at h1
              simp only [Option.bind_some] at h1
              obtain ⟨hb, hv⟩ := live_spec hl
              have hf := hr.frame q
              rw [hp] at hf
              obtain ⟨g, o, hβ, hv'⟩ := hf.pt_inv hb hv
              obtain ⟨_, cc, e, fz, hat⟩ := (hr.blocks id blk hb).at_ hβ
              obtain ⟨v, hrun, hq⟩ := run_loadL h1 ha hz (hat.At off)
              exact ⟨v, by simp only [resM, hv', asAddr, Sem.run_bind, Sem.run_pure, Result.andThen_ok]; exact hrun, hq⟩
          · cases h1
      obtain ⟨v, m1, m2⟩ := hx
      refine ⟨v :: vs, ?_, by simp [k2], fun j hj => ?_⟩
      · simp only [List.mapM_cons, Sem.run_bind, m1, Result.andThen_ok, k1, Sem.run_pure]
      · cases j with
        | zero => simpa using m2
        | succ j => have := k3 j (by simpa using hj); simpa using this
    · cases h

theorem run_resA {P : Program} {c : Ctx} {β : Id → Option (Nat × Nat)} {s : St} {a : Act} {w : World} (hr : RelB c β s a w) {fn : Func} {p : PV} (h : resA P s fn.results.toList = some p) :
    ∃ v, (results fn a.tmps).run P w = .ok v w ∧ VR (env c β s.store w) p v := by
  unfold resA at h
  have key : ∀ ps, resL P s fn.results.toList = some ps → ∃ vs : List Value, (fn.results.mapM (resM a.tmps)).run P w = .ok vs.toArray w ∧ vs.length = ps.length ∧ ∀ j, j < ps.length → VR (env c β s.store w) (ps.getD j .any) (vs.getD j undef) := by
    intro ps hps
    obtain ⟨vs, k1, k2, k3⟩ := run_resL (P := P) hr hps
    refine ⟨vs, ?_, k2, k3⟩
    rw [Array.mapM_eq_mapM_toList, Sem.run_map, k1]
    rfl
  split at h
  · rename_i q hq
    injection h with h; subst h
    obtain ⟨vs, k1, k2, k3⟩ := key _ hq
    obtain ⟨v, rfl⟩ : ∃ v, vs = [v] := by
      match vs, k2 with
      | [v], _ => exact ⟨v, rfl⟩
    refine ⟨v, ?_, by simpa using k3 0 (by simp)⟩
    rw [results_eq, Sem.run_bind, k1]
    simp
  · rename_i ps hne hq
    injection h with h; subst h
    obtain ⟨vs, k1, k2, k3⟩ := key _ hq
    refine ⟨.tuple vs.toArray, ?_, .tup _ _ (by simp [k2]) (fun j hj => by rw [toArray_getD]; exact k3 j hj)⟩
    rw [results_eq, Sem.run_bind, k1]
    have : ¬ vs.length = 1 := by
      intro e
      rw [k2] at e
      match ps, e with
      | [x], _ => exact hne x rfl
    simp [this]
  · cases h

/-- A cell of a block that goes along: like a value, but nil stays nil. -/
def expN (σ : Id → Option Blk) (ret : List Id) (p : PV) : Option (PV × List Id) :=
  match p with
  | .nilS => some (.nilS, [])
  | p => expC σ ret p

theorem expN_VR {E E' : Env} {ret tl : List Id} {B : Nat} {I : Id → Nat → Prop} (X : ExpEnv E E' ret tl) (hblk : ∀ id blk, E.σ id = some blk → BlkRel E B I id blk) {p q : PV} {x : List Id} (hc : expN E.σ ret p = some (q, x)) (hsub : ∀ id ∈ x, id ∈ tl) {v : Value} (hv : VR E p v) : VR E' q v := by
  unfold expN at hc
  split at hc
  · injection hc with hc; injection hc with h1 h2; subst h1
    rw [hv.nilS_inv]; exact .nilS
  · exact expC_VR X hblk hc hsub hv

/-- The blocks that go along, as they are told. -/
def expB (σ : Id → Option Blk) (ret : List Id) (blk : Blk) : Option (Blk × List Id) :=
  if blk.own = true then
    if blk.flat = true then some (blk, []) else (expL (expN σ ret) blk.cells).map fun (l, x) => ({ blk with cells := l }, x)
  else none

def expBs (σ : Id → Option Blk) (ret : List Id) : List Id → Option (List Blk × List Id)
  | [] => some ([], [])
  | id :: r => match (σ id).bind (expB σ ret), expBs σ ret r with
    | some (b, x), some (l, y) => some (b :: l, x ++ y)
    | _, _ => none

theorem expBs_at {σ : Id → Option Blk} {ret : List Id} : ∀ {l : List Id} {rb : List Blk} {x : List Id}, expBs σ ret l = some (rb, x) → rb.length = l.length ∧ ∀ (j : Nat) (id : Id), l[j]? = some id → ∃ blk b y, σ id = some blk ∧ expB σ ret blk = some (b, y) ∧ rb[j]? = some b ∧ ∀ i ∈ y, i ∈ x
  | [], rb, x, h => by injection h with h; injection h with h1 h2; subst h1; exact ⟨rfl, by simp⟩
  | i :: l, rb, x, h => by
    simp only [expBs] at h
    split at h
    · rename_i b y l' z h1 h2
      injection h with h; injection h with e1 e2; subst e1; subst e2
      obtain ⟨k1, k2⟩ := expBs_at h2
      refine ⟨by simp [k1], fun j id hj => ?_⟩
      cases j with
      | zero =>
        simp at hj; subst hj
        cases hs : σ i with
        | none => rw [hs] at h1; cases h1
        | some blk => rw [hs] at h1; exact ⟨blk, b, y, rfl, h1, by simp, fun i hi => by simp [hi]⟩
      | succ j =>
        obtain ⟨blk, b', y', m1, m2, m3, m4⟩ := k2 j id (by simpa using hj)
        exact ⟨blk, b', y', m1, m2, by simpa using m3, fun i hi => by simp [m4 i hi]⟩
    · cases h

theorem expB_spec {σ : Id → Option Blk} {ret : List Id} {blk b : Blk} {y : List Id} (h : expB σ ret blk = some (b, y)) : blk.own = true ∧ b.own = true ∧ b.ver = blk.ver ∧ b.flat = blk.flat ∧
    ((blk.flat = true ∧ b.cells = blk.cells) ∨ (blk.flat = false ∧ expL (expN σ ret) blk.cells = some (b.cells, y))) := by
  unfold expB at h
  split at h
  · rename_i ho
    split at h
    · rename_i hf
      injection h with h; injection h with h1 h2; subst h1
      exact ⟨ho, ho, rfl, rfl, .inl ⟨hf, rfl⟩⟩
    · rename_i hf
      cases hl : expL (expN σ ret) blk.cells with
      | none => rw [hl] at h; cases h
      | some lx =>
        obtain ⟨l, x⟩ := lx
        rw [hl] at h; injection h with h; injection h with h1 h2; subst h1; subst h2
        exact ⟨ho, ho, rfl, rfl, .inr ⟨by simpa using hf, rfl⟩⟩
  · cases h

structure EndS (P : Program) (fn : Func) (ib : List Blk) (r : PV) (rb : List Blk) (s : St) : Prop where
  mk :: (out : ∃ r0 ret tl tl', resA P s fn.results.toList = some r0 ∧ expP s.store ret r0 = some (r, tl) ∧ expBs s.store ret ret = some (rb, tl') ∧ ret.Nodup ∧ (∀ j, j < ib.length → ret[j]? = some ⟨0, 0, j⟩) ∧ (∀ id ∈ tl ++ tl', id ∉ ret))

def endQ (P : Program) (fn : Func) (ib : List Blk) (r : PV) (rb : List Blk) : Exit → St → Prop
  | .normal, s | .ret, s => EndS P fn ib r rb s
  | _, _ => False

def st0 (ps : List PV) (ib : List Blk) : St := ⟨fun t => ps.getD t .any, stOf ib, fun d => if d = 0 then 1 else 0⟩

theorem stOf_spec {ib : List Blk} {id : Id} {blk : Blk} (h : stOf ib id = some blk) : id = ⟨0, 0, id.j⟩ ∧ ib[id.j]? = some blk := by
  unfold stOf at h
  split at h
  · rename_i hc
    obtain ⟨d, g, j⟩ := id
    simp at hc
    obtain ⟨rfl, rfl⟩ := hc
    exact ⟨rfl, h⟩
  · cases h

theorem nodup_idx {l : List Id} (h : l.Nodup) : ∀ {i j : Nat} {a : Id}, l[i]? = some a → l[j]? = some a → i = j := by
  intro i j a hi hj
  obtain ⟨hi1, hi2⟩ := List.getElem?_eq_some_iff.1 hi
  obtain ⟨hj1, hj2⟩ := List.getElem?_eq_some_iff.1 hj
  exact (List.getElem_inj (h₀ := hi1) (h₁ := hj1) h).1 (hi2.trans hj2.symm)

theorem leave_of_end {P : Program} {fn : Func} {ib : List Blk} {r : PV} {rb : List Blk} {c : Ctx} {β0 β : Id → Option (Nat × Nat)} {s : St} {a : Act} {w : World}
    (hown : ∀ id g, c.I id g → (stOf ib id).isSome = true) (hr : RelB { c with nt := fn.ntmps, β0 := β0, v0 := fun id => (stOf ib id).map (·.ver) } β s a w) (h : EndS P fn ib r rb s) :
    ∃ v β', (results fn a.tmps).run P w = .ok v w ∧ Leave c β0 ib r rb β' v w := by
  obtain ⟨r0, ret, tl, tl', h1, h2, h3, h4, h5, h6⟩ := h.out
  obtain ⟨v, hv, hvr⟩ := run_resA hr h1
  obtain ⟨b1, b2⟩ := expBs_at h3
  let β' : Id → Option (Nat × Nat) := fun id => if id.d = 0 ∧ id.g = 0 then (ret[id.j]?).bind β else none
  have hβ' : ∀ j id, ret[j]? = some id → β' ⟨0, 0, j⟩ = β id := by
    intro j id hj
    simp [β', hj]
  have hst : ∀ id b, stOf rb id = some b → ∃ id0 blk y, ret[id.j]? = some id0 ∧ s.store id0 = some blk ∧ expB s.store ret blk = some (b, y) ∧ (∀ i ∈ y, i ∈ tl') ∧ β' id = β id0 ∧ id = ⟨0, 0, id.j⟩ := by
    intro id b hb
    obtain ⟨e, hb⟩ := stOf_spec hb
    have hlt : id.j < ret.length := by rw [← b1]; exact (List.getElem?_eq_some_iff.1 hb).1
    have hj : ret[id.j]? = some ret[id.j] := List.getElem?_eq_getElem hlt
    obtain ⟨blk, b', y, m1, m2, m3, m4⟩ := b2 _ _ hj
    rw [hb] at m3; injection m3 with m3; subst m3
    refine ⟨_, blk, y, hj, m1, m2, m4, ?_, e⟩
    exact (congrArg β' e).trans (hβ' _ _ hj)
  have X : ExpEnv (env { c with nt := fn.ntmps, β0 := β0, v0 := fun id => (stOf ib id).map (·.ver) } β s.store w) (env c β' (stOf rb) w) ret (tl ++ tl') := by
    refine ⟨rfl, ?_, ?_, ?_⟩
    · rintro g ⟨k1, k2, k3⟩
      refine ⟨k1, k2, fun id b o hb ho hbe => ?_⟩
      obtain ⟨id0, blk, y, m1, m2, m3, m4, m5, m6⟩ := hst id b hb
      obtain ⟨q1, q2, _⟩ := expB_spec m3
      rw [m5] at hbe
      exact k3 id0 blk o m2 q1 hbe
    · intro id hid blk g o hne hb hbe
      have hrel := hr.blocks id blk hb
      obtain ⟨hloc, _⟩ := hrel.at_ hbe
      have hB : c.w0.heap.size ≤ g := by
        rcases hloc with hloc | ⟨e1, e2, _⟩
        · exact hloc
        · rcases hne with hne | hne
          · exact absurd e1 hne
          · exact absurd e2 hne
      refine ⟨hrel.lt hbe, .inr hB, fun id' b o' hb' ho' hbe' => ?_⟩
      obtain ⟨id0, blk0, y, m1, m2, m3, m4, m5, m6⟩ := hst id' b hb'
      obtain ⟨q1, q2, _⟩ := expB_spec m3
      rw [m5] at hbe'
      have := hr.inj id0 id blk0 blk g o' o m2 hb q1 hbe' hbe
      subst this
      exact h6 _ hid (List.mem_of_getElem? m1)
    · intro j id hj blk hb
      obtain ⟨blk', b, y, m1, m2, m3, m4⟩ := b2 j id hj
      rw [show (env { c with nt := fn.ntmps, β0 := β0, v0 := fun id => (stOf ib id).map (·.ver) } β s.store w).σ id = s.store id from rfl, m1] at hb
      injection hb with hb; subst hb
      obtain ⟨q1, q2, q3, _⟩ := expB_spec m2
      refine ⟨b, ?_, q3, hβ' j id hj⟩
      show stOf rb ⟨0, 0, j⟩ = some b
      simp [stOf, m3]
  refine ⟨v, β', hv, hr.keeps, expP_VR X hr.blocks h2 (fun id hid => by simp [hid]) hvr, ⟨?_, ?_⟩, ?_⟩
  · intro id b hb
    obtain ⟨id0, blk, y, m1, m2, m3, m4, m5, m6⟩ := hst id b hb
    obtain ⟨q1, q2, q3, q4, q5⟩ := expB_spec m3
    have hrel := hr.blocks id0 blk m2
    cases hbe : β id0 with
    | none =>
      unfold BlkRel at hrel ⊢
      have e1 : (env { c with nt := fn.ntmps, β0 := β0, v0 := fun id => (stOf ib id).map (·.ver) } β s.store w).β id0 = none := hbe
      have e2 : (env c β' (stOf rb) w).β id = none := by show β' id = none; rw [m5, hbe]
      rw [e1] at hrel
      rw [e2]
      simp only at hrel ⊢
      rcases q5 with ⟨_, q5⟩ | ⟨_, q5⟩
      · rw [q5]; exact hrel
      · rw [hrel] at q5; simp [expL] at q5; exact q5.1
    | some go =>
      obtain ⟨g, o⟩ := go
      obtain ⟨hloc, cc, e, fz, hat⟩ := hrel.at_ (g := g) (o := o) hbe
      have hclen : b.cells.length = blk.cells.length := by
        rcases q5 with ⟨_, q5⟩ | ⟨_, q5⟩
        · rw [q5]
        · exact (expL_VR (E := (env c β' (stOf rb) w)) (E' := (env c β' (stOf rb) w)) (tl := y) (g := fun p => (expN s.store ret p).map fun (q, x) => (.any, x)) (fun p q x v hx _ _ => by
            cases hh : expN s.store ret p with
            | none => rw [hh] at hx; cases hx
            | some z => rw [hh] at hx; injection hx with hx; injection hx with hx _; subst hx; exact .any _) (ps := blk.cells) (qs := b.cells.map fun _ => .any) (x := y) (by
            clear hat hrel m3 m2
            revert q5
            generalize blk.cells = L
            generalize b.cells = M
            intro q5
            clear m4
            induction L generalizing M y with
            | nil => injection q5 with q5; injection q5 with q5 q6; subst q5; subst q6; rfl
            | cons p L ih =>
              simp only [expL] at q5 ⊢
              split at q5
              · rename_i q x1 l z w1 w2
                injection q5 with q5; injection q5 with q5 q6; subst q5; subst q6
                rw [w1, ih z l w2]
                rfl
              · cases q5) (fun id hid => hid)).1.symm ▸ (by simp)
      refine BlkAt.rel (g := g) (o := o) (c := cc) (e := e) (fz := fz) ⟨hat.heap, fun _ => hat.own q1, by rw [hclen]; exact hat.size, fun j hj => ?_, fun j hj => hat.one j (by omega)⟩ (by show β' id = some (g, o); rw [m5, hbe]) ?_
      · rw [hclen] at hj
        rw [q4]
        have hc := hat.cell j hj
        rcases q5 with ⟨f1, q5⟩ | ⟨f1, q5⟩
        · rw [if_pos f1] at hc ⊢
          rw [q5]
          exact hc.mono X.bare
        · simp only [f1, Bool.false_eq_true, if_false] at hc ⊢
          exact (expL_VR (fun p q x v hx hsub hp => expN_VR X hr.blocks hx hsub hp) q5 (fun id hid => by simp [m4 id hid])).2 j hj _ hc
      · rcases hloc with hloc | ⟨e1, e2, e3⟩
        · exact .inl hloc
        · refine .inr ?_
          have hs := hown id0 g e3
          obtain ⟨b0, hb0⟩ := Option.isSome_iff_exists.1 hs
          obtain ⟨ee, hb0⟩ := stOf_spec hb0
          have hlt := (List.getElem?_eq_some_iff.1 hb0).1
          have := nodup_idx h4 (h5 id0.j hlt) (by rw [← ee]; exact m1)
          rw [m6, ← this, ← ee]
          exact ⟨e1, e2, e3⟩
  · intro id id' b b' g o o' hb hb' ho hbe hbe'
    obtain ⟨id0, blk, y, m1, m2, m3, m4, m5, m6⟩ := hst id b hb
    obtain ⟨id1, blk1, y1, n1, n2, n3, n4, n5, n6⟩ := hst id' b' hb'
    obtain ⟨q1, _⟩ := expB_spec m3
    have hbe : β' id = some (g, o) := hbe
    have hbe' : β' id' = some (g, o') := hbe'
    rw [m5] at hbe
    rw [n5] at hbe'
    have e := hr.inj id0 id1 blk blk1 g o o' m2 n2 q1 hbe hbe'
    subst e
    have := nodup_idx h4 m1 n1
    rw [m6, n6, this]
  · intro id blk hb
    obtain ⟨ee, hb'⟩ := stOf_spec hb
    have hlt := (List.getElem?_eq_some_iff.1 hb').1
    have hj := h5 id.j hlt
    rw [← ee] at hj
    obtain ⟨blk1, k1, k2, k3⟩ := hr.io id blk.ver (by show (stOf ib id).map (·.ver) = some blk.ver; rw [hb]; rfl)
    obtain ⟨blk', b, y, m1, m2, m3, m4⟩ := b2 _ _ hj
    rw [k1] at m1; injection m1 with m1; subst m1
    obtain ⟨q1, q2, q3, _⟩ := expB_spec m2
    refine ⟨b, ?_, by omega, fun e => ?_⟩
    · rw [ee]; simp [stOf, m3]
    · rw [ee, hβ' _ _ hj, ← ee]
      exact k3 (by omega)

theorem CallOk.of_wp {P : Program} {f : FuncId} {fn : Func} {code : Code} {ps : List PV} {ib : List Blk} {r : PV} {rb : List Blk} (hf : P.funcs[f]? = some fn) (hb : fn.body = some code) (hn : ps.length ≤ fn.ntmps)
    (h : WP P fn.ntmps code (endQ P fn ib r rb) (st0 ps ib)) : CallOk P f ps ib r rb := by
  intro c β0 args hE
  refine calls_of_wp hf hb ?_
  have hrel : RelB { c with nt := fn.ntmps, β0 := β0, v0 := fun id => (stOf ib id).map (·.ver) } β0 (st0 ps ib) { tmps := args ++ Array.replicate (fn.ntmps - args.size) undef, defers := [] } c.w0 := by
    refine ⟨Keeps.refl _ _ _, by simp [hE.size]; omega, rfl, fun t => ?_, hE.st.1, hE.st.2, fun id blk hb => ?_, fun id n hn => ?_⟩
    · by_cases ht : t < ps.length
      · have := hE.vr t ht
        have e : (args ++ Array.replicate (fn.ntmps - args.size) undef).getD t undef = args.getD t undef := by
          rw [Array.getD_eq_getD_getElem?, Array.getD_eq_getD_getElem?, Array.getElem?_append_left (by rw [hE.size]; exact ht)]
        rw [e]
        exact this
      · have : (st0 ps ib).frame t = .any := by simp [st0, List.getD, List.getElem?_eq_none (Nat.le_of_not_lt ht)]
        rw [this]
        exact .any _
    · obtain ⟨e, _⟩ := stOf_spec hb
      rw [e]; simp [st0]
    · cases hs : stOf ib id with
      | none => simp [hs] at hn
      | some blk => simp [hs] at hn; exact ⟨blk, hs, by omega, fun _ => rfl⟩
  refine wp_mono (h _ _ _ rfl ⟨β0, hrel⟩) fun e a w ⟨s', hq, hr'⟩ => ?_
  obtain ⟨β, hr'⟩ := hr'
  cases e <;> simp only [endQ] at hq <;> try exact hq.elim
  all_goals
    obtain ⟨v, β', h1, h2⟩ := leave_of_end hE.own hr' hq
    exact ⟨hr'.defers, v, h1, v, β', rfl, h2⟩

end Go.Proofs.YtabofinagjdljaaE
