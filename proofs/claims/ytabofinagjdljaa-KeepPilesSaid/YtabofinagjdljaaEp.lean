/- A call, by its contract: the effect. -/
import Derived.Test.YtabofinagjdljaaEo
set_option linter.unusedVariables false
set_option linter.unusedSimpArgs false
namespace Go.Proofs.YtabofinagjdljaaE
open Go.RowKit

theorem idx_some_mem {l : List Id} {id : Id} {j : Nat} (h : idx l id 0 = some j) : id ∈ l := by
  obtain ⟨_, h⟩ := idx_spec l id 0 j h
  exact List.mem_of_getElem? (by simpa using h)

theorem expC_congr {σ σ' : Id → Option Blk} {ret : List Id} {p q : PV} {x : List Id} (h : expC σ ret p = some (q, x)) (hr : ∀ id ∈ ret, σ' id = σ id) (hs : ∀ id ∈ x, σ' id = σ id) : expC σ' ret p = some (q, x) := by
  unfold expC at *
  split at h <;> first | exact h | skip
  · rename_i id ver off n sz
    split at h
    · rename_i blk hl
      split at h
      · rename_i j hj
        rw [live_congr (hr id (idx_some_mem hj)), hl]
        simp only [hj]
        exact h
      · rename_i hj
        split at h
        · rename_i hc
          injection h with h; injection h with h1 h2
          rw [live_congr (hs id (by simp [← h2])), hl]
          subst h1; subst h2
          simp only [hj, if_pos hc]
        · cases h
    · cases h
  · rename_i id ver off
    split at h
    · rename_i blk hl
      split at h
      · rename_i j hj
        rw [live_congr (hr id (idx_some_mem hj)), hl]
        simp only [hj]
        exact h
      · rename_i hj
        split at h
        · rename_i hc
          cases hf : flatCs σ blk.cells with
          | none => rw [hf] at h; cases h
          | some y =>
            obtain ⟨qs, ids⟩ := y
            rw [hf] at h
            injection h with h; injection h with h1 h2
            rw [live_congr (hs id (by simp [← h2])), hl]
            simp only [hj, if_pos hc, flatCs_congr hf (fun i hi => hs i (by simp [← h2, hi])), Option.map_some, h1, h2]
        · cases h
    · cases h

theorem expN_congr {σ σ' : Id → Option Blk} {ret : List Id} {p q : PV} {x : List Id} (h : expN σ ret p = some (q, x)) (hr : ∀ id ∈ ret, σ' id = σ id) (hs : ∀ id ∈ x, σ' id = σ id) : expN σ' ret p = some (q, x) := by
  unfold expN at *
  split at h
  · exact h
  · exact expC_congr h hr hs

theorem expL_congr {g g' : PV → Option (PV × List Id)} {ok : Id → Prop} (hg : ∀ p q x, g p = some (q, x) → (∀ id ∈ x, ok id) → g' p = some (q, x)) : ∀ {ps qs : List PV} {x : List Id}, expL g ps = some (qs, x) → (∀ id ∈ x, ok id) → expL g' ps = some (qs, x)
  | [], qs, x, h, _ => h
  | p :: ps, qs, x, h, hs => by
    simp only [expL] at *
    split at h
    · rename_i q x1 l y h1 h2
      injection h with h; injection h with e1 e2; subst e1; subst e2
      rw [hg _ _ _ h1 (fun id hid => hs id (by simp [hid])), expL_congr hg h2 (fun id hid => hs id (by simp [hid]))]
    · cases h

theorem expA_congr {σ σ' : Id → Option Blk} {ret : List Id} {p q : PV} {x : List Id} (h : expA σ ret p = some (q, x)) (hr : ∀ id ∈ ret, σ' id = σ id) (hs : ∀ id ∈ x, σ' id = σ id) : expA σ' ret p = some (q, x) := by
  unfold expA at *
  split at h
  · rename_i l
    cases hl : expL (expC σ ret) l with
    | none => rw [hl] at h; cases h
    | some y =>
      obtain ⟨qs, ids⟩ := y
      rw [hl] at h; injection h with h; injection h with h1 h2; subst h1; subst h2
      simp only
      rw [expL_congr (ok := fun id => σ' id = σ id) (fun p q x h1 h2 => expC_congr h1 hr h2) hl hs]
      rfl
  · exact expC_congr h hr hs

theorem expB_congr {σ σ' : Id → Option Blk} {ret : List Id} {blk b : Blk} {y : List Id} (h : expB σ ret blk = some (b, y)) (hr : ∀ id ∈ ret, σ' id = σ id) (hs : ∀ id ∈ y, σ' id = σ id) : expB σ' ret blk = some (b, y) := by
  unfold expB at *
  split at h
  · rename_i ho
    rw [if_pos ho]
    split at h
    · rename_i hf; rw [if_pos hf]; exact h
    · rename_i hf
      rw [if_neg hf]
      cases hl : expL (expN σ ret) blk.cells with
      | none => rw [hl] at h; cases h
      | some lx =>
        obtain ⟨l, x⟩ := lx
        rw [hl] at h; injection h with h; injection h with h1 h2; subst h1; subst h2
        rw [expL_congr (ok := fun id => σ' id = σ id) (fun p q x h1 h2 => expN_congr h1 hr h2) hl hs]
        rfl
  · cases h

theorem expBs_congr {σ σ' : Id → Option Blk} {ret : List Id} (hr : ∀ id ∈ ret, σ' id = σ id) : ∀ {l : List Id} {rb : List Blk} {x : List Id}, expBs σ ret l = some (rb, x) → (∀ id ∈ l, σ' id = σ id) → (∀ id ∈ x, σ' id = σ id) → expBs σ' ret l = some (rb, x)
  | [], rb, x, h, _, _ => h
  | i :: l, rb, x, h, hl, hs => by
    simp only [expBs] at *
    split at h
    · rename_i b y l' z h1 h2
      injection h with h; injection h with e1 e2; subst e1; subst e2
      rw [hl i (by simp)]
      cases hi : σ i with
      | none => rw [hi] at h1; cases h1
      | some blk =>
        rw [hi] at h1
        have h1 : expB σ ret blk = some (b, y) := h1
        simp only [Option.bind_some]
        rw [expB_congr h1 hr (fun id hid => hs id (by simp [hid])), expBs_congr hr h2 (fun id hid => hl id (by simp [hid])) (fun id hid => hs id (by simp [hid]))]
    · cases h

theorem VR.fn_inv {E : Env} {f : FuncId} {v : Value} (h : VR E (.fn f [] []) v) : v = .func (.func f) #[] #[] := by
  cases h with | fn f fs cs va vb k1 k2 k3 k4 =>
    rw [Array.eq_empty_of_size_eq_zero k1, Array.eq_empty_of_size_eq_zero k2]

theorem run_callv {P : Program} {o : Oper} {a : Act} {w : World} {x : Operand} {args : Array Operand} {at_ : Array TypeId} {f : FuncId} (ho : o.op = .call { callee := .value x, args := args, argTypes := at_ }) (hx : a.eval x = .func (.func f) #[] #[]) (hf : FnOk P f) :
    (execOp a.eval o).run P w = .ok (.enter f (args.map a.eval)) w := by
  obtain ⟨fn, h1, h2, h3⟩ := hf
  have h2' : ¬ fn.body = none := by intro e; rw [e] at h2; cases h2
  have h3' : ¬ fn.name = "runtime.NumGoroutine" := by simpa using h3
  unfold execOp
  simp only [ho, resolve, hx, Deferred.ofValue, Sem.run_bind, Sem.run_pure, Result.andThen_ok, invoke, callFunc, Array.empty_append, Array.append_empty]
  simp [h1, h2', h3', program, Sem.run]

def callE (io tl : List Id) (d g : Nat) (r : PV) (rb : List Blk) (fz : Bool) (σ : Id → Option Blk) : Eff :=
  ⟨renP io d g r, io ++ tl, newL io d g rb 0 ++ (if fz then frzL σ tl else []), decide (io.length < rb.length)⟩

theorem call_sim {P : Program} {o : Oper} {s : St} {f : FuncId} {x : Operand} {args : Array Operand} {at_ : Array TypeId} (ho : o.op = .call { callee := .value x, args := args, argTypes := at_ }) (hx : pv s.frame x = .fn f [] []) (hf : FnOk P f)
    {io tl1 tl2 : List Id} {ps : List PV} {ib rb : List Blk} {r : PV} (h1 : expL (expA s.store io) (args.toList.map (pv s.frame)) = some (ps, tl1)) (h2 : expBs s.store io io = some (ib, tl2)) (hn : io.Nodup) (hni : ∀ id ∈ tl1 ++ tl2, id ∉ io)
    (hc : CallOk P f ps ib r rb) (hcr : cellP r = true) (hcb : ∀ b ∈ rb, b.flat = true ∨ b.cells.all cellB = true) (hlen : io.length ≤ rb.length) (hd : rb.length = io.length ∨ o.dst ≠ none) {fz : Bool} (hfz : fz = true ∨ (rb = [] ∧ scalarP r = true)) :
    Sim P o s (callE io (tl1 ++ tl2) (o.dst.getD 0) (s.gens (o.dst.getD 0)) r rb fz s.store) := by
  intro c a w K Q hr hnt hK
  obtain ⟨β, hr⟩ := hr
  generalize hd0 : o.dst.getD 0 = d at *
  generalize hg0 : s.gens d = g at *
  obtain ⟨b1, b2⟩ := expBs_at h2
  have hxv := VR_pv hr.frame x
  rw [hx] at hxv
  have hxv : a.eval x = .func (.func f) #[] #[] := hxv.fn_inv
  -- the callee's view
  let β0 : Id → Option (Nat × Nat) := fun id => if id.d = 0 ∧ id.g = 0 then (io[id.j]?).bind β else none
  have hβ0 : ∀ (j : Nat) (id : Id), io[j]? = some id → β0 ⟨0, 0, j⟩ = β id := by intro j id hj; simp [β0, hj]
  have hst : ∀ id b, stOf ib id = some b → ∃ id0 blk y, io[id.j]? = some id0 ∧ s.store id0 = some blk ∧ expB s.store io blk = some (b, y) ∧ (∀ i ∈ y, i ∈ tl2) ∧ β0 id = β id0 ∧ id = ⟨0, 0, id.j⟩ := by
    intro id b hb
    obtain ⟨e, hb⟩ := stOf_spec hb
    have hlt : id.j < io.length := by rw [← b1]; exact (List.getElem?_eq_some_iff.1 hb).1
    have hj : io[id.j]? = some io[id.j] := List.getElem?_eq_getElem hlt
    obtain ⟨blk, b', y, m1, m2, m3, m4⟩ := b2 _ _ hj
    rw [hb] at m3; injection m3 with m3; subst m3
    refine ⟨_, blk, y, hj, m1, m2, m4, ?_, e⟩
    exact (congrArg β0 e).trans (hβ0 _ _ hj)
  let tlS : Nat → Prop := fun g => ∃ id ∈ tl1 ++ tl2, (id.d ≠ 0 ∨ id.g ≠ 0) ∧ ∃ blk o, s.store id = some blk ∧ β id = some (g, o)
  let c' : Ctx := ⟨w, fun id g => ∃ b o, stOf ib id = some b ∧ β0 id = some (g, o), fun g => (env c β s.store w).D g ∨ tlS g, 0, β0, fun _ => none⟩
  have X : ExpEnv (env c β s.store w) (env c' β0 (stOf ib) w) io (tl1 ++ tl2) := by
    refine ⟨rfl, ?_, ?_, ?_⟩
    · intro g hD
      refine ⟨hD.1, .inl (.inl hD), fun id b o hb ho hbe => ?_⟩
      obtain ⟨id0, blk, y, m1, m2, m3, m4, m5, m6⟩ := hst id b hb
      obtain ⟨q1, _⟩ := expB_spec m3
      rw [m5] at hbe
      exact hD.2.2 id0 blk o m2 q1 hbe
    · intro id hid blk g o hne hb hbe
      refine ⟨(hr.blocks id blk hb).lt hbe, .inl (.inr ⟨id, hid, hne, blk, o, hb, hbe⟩), fun id' b o' hb' ho' hbe' => ?_⟩
      obtain ⟨id0, blk0, y, m1, m2, m3, m4, m5, m6⟩ := hst id' b hb'
      obtain ⟨q1, _⟩ := expB_spec m3
      rw [m5] at hbe'
      have := hr.inj id0 id blk0 blk g o' o m2 hb q1 hbe' hbe
      subst this
      exact hni _ hid (List.mem_of_getElem? m1)
    · intro j id hj blk hb
      obtain ⟨blk', b, y, m1, m2, m3, m4⟩ := b2 j id hj
      rw [show (env c β s.store w).σ id = s.store id from rfl, m1] at hb
      injection hb with hb; subst hb
      obtain ⟨q1, q2, q3, _⟩ := expB_spec m2
      exact ⟨b, by show stOf ib ⟨0, 0, j⟩ = some b; simp [stOf, m3], q3, hβ0 j id hj⟩
  obtain ⟨p1, p2⟩ := expL_VR (tl := tl1 ++ tl2) (fun p q x v hx hsub hp => expA_VR X hr.blocks hx hsub hp) h1 (fun id hid => by simp [hid])
  have hE : Entry c' β0 ps ib (args.map a.eval) := by
    refine ⟨by rw [p1]; simp, fun j hj => ?_, ⟨fun id b hb => ?_, fun id id' b b' g o o' hb hb' ho hbe hbe' => ?_⟩, fun id g hI => ?_⟩
    · have hlist := arrVR hr.frame args j (by omega)
      exact p2 j (by omega) _ hlist
    · obtain ⟨id0, blk, y, m1, m2, m3, m4, m5, m6⟩ := hst id b hb
      obtain ⟨q1, q2, q3, q4, q5⟩ := expB_spec m3
      have hrel := hr.blocks id0 blk m2
      cases hbe : β id0 with
      | none =>
        unfold BlkRel at hrel ⊢
        have e1 : (env c β s.store w).β id0 = none := hbe
        have e2 : (env c' β0 (stOf ib) c'.w0).β id = none := by show β0 id = none; rw [m5, hbe]
        rw [e1] at hrel
        rw [e2]
        simp only at hrel ⊢
        rcases q5 with ⟨_, q5⟩ | ⟨_, q5⟩
        · rw [q5]; exact hrel
        · rw [hrel] at q5; simp [expL] at q5; exact q5.1
      | some go =>
        obtain ⟨g, o⟩ := go
        obtain ⟨hloc, cc, e, fz, hat⟩ := hrel.at_ (g := g) (o := o) hbe
        have hcells : b.cells.length = blk.cells.length ∧ ∀ j, j < blk.cells.length → VR (if b.flat then (env c' β0 (stOf ib) w).bare else env c' β0 (stOf ib) w) (b.cells.getD j .any) (cc.getD (o + j) undef) := by
          rcases q5 with ⟨f1, q5⟩ | ⟨f1, q5⟩
          · rw [q5, q4]
            refine ⟨rfl, fun j hj => ?_⟩
            have hc := hat.cell j hj
            rw [if_pos f1] at hc ⊢
            exact hc.mono X.bare
          · obtain ⟨k1, k2⟩ := expL_VR (tl := tl1 ++ tl2) (fun p q x v hx hsub hp => expN_VR X hr.blocks hx hsub hp) q5 (fun id hid => by simp [m4 id hid])
            refine ⟨k1, fun j hj => ?_⟩
            have hc := hat.cell j hj
            rw [q4]
            simp only [f1, Bool.false_eq_true, if_false] at hc ⊢
            exact k2 j hj _ hc
        exact BlkAt.rel (g := g) (o := o) (c := cc) (e := e) (fz := fz) ⟨hat.heap, fun _ => hat.own q1, by rw [hcells.1]; exact hat.size, fun j hj => hcells.2 j (by omega), fun j hj => hat.one j (by omega)⟩ (by show β0 id = some (g, o); rw [m5, hbe])
          (.inr ⟨by rw [m6], by rw [m6], b, o, hb, by rw [m5, hbe]⟩)
    · obtain ⟨id0, blk, y, m1, m2, m3, m4, m5, m6⟩ := hst id b hb
      obtain ⟨id1, blk1, y1, n1, n2, n3, n4, n5, n6⟩ := hst id' b' hb'
      obtain ⟨q1, _⟩ := expB_spec m3
      have hbe : β0 id = some (g, o) := hbe
      have hbe' : β0 id' = some (g, o') := hbe'
      rw [m5] at hbe
      rw [n5] at hbe'
      have e := hr.inj id0 id1 blk blk1 g o o' m2 n2 q1 hbe hbe'
      subst e
      have := nodup_idx hn m1 n1
      rw [m6, n6, this]
    · obtain ⟨b, o, hb, _⟩ := hI
      rw [hb]; rfl
  have hcall := hc c' β0 (args.map a.eval) hE
  unfold Oper.wp
  rw [run_callv ho hxv hf]
  simp only [Oper.upon]
  refine hcall.mono fun e w' hpost => ?_
  obtain ⟨v, β1, rfl, hL⟩ := hpost
  simp only
  -- the caller's view of what came back
  have hnew_no : ∀ j, s.store ⟨d, g, j⟩ = none := fun j => by rw [← hg0]; exact St.no_new hr d j
  have hio_st : ∀ (j : Nat) (id : Id), io[j]? = some id → ∃ blk, s.store id = some blk ∧ blk.own = true := by
    intro j id hj
    obtain ⟨blk, b, y, m1, m2, _⟩ := b2 j id hj
    exact ⟨blk, m1, (expB_spec m2).1⟩
  have hnid_inj : ∀ i j, i < rb.length → j < rb.length → nid io d g i = nid io d g j → i = j := by
    intro i j hi hj e
    unfold nid at e
    cases h1 : io[i]? with
    | none =>
      cases h2 : io[j]? with
      | none => rw [h1, h2] at e; simpa using e
      | some b =>
        rw [h1, h2] at e
        simp at e
        obtain ⟨blk, hb, _⟩ := hio_st j b h2
        rw [← e, hnew_no] at hb; cases hb
    | some a' =>
      cases h2 : io[j]? with
      | none =>
        rw [h1, h2] at e
        simp at e
        obtain ⟨blk, hb, _⟩ := hio_st i a' h1
        rw [e, hnew_no] at hb; cases hb
      | some b =>
        rw [h1, h2] at e
        simp at e
        subst e
        exact nodup_idx hn h1 h2
  let fl : List (Id × Blk) := if fz then frzL s.store (tl1 ++ tl2) else []
  let σ3 : Id → Option Blk := wrs s.store (newL io d g rb 0 ++ fl)
  have hσ3 : ∀ id, (∃ j b, rb[j]? = some b ∧ id = nid io d g j ∧ σ3 id = some (renB io d g b)) ∨ ((∀ j, j < rb.length → id ≠ nid io d g j) ∧ σ3 id = wrs s.store fl id) := by
    intro id
    rcases newL_find (io := io) (d := d) (g := g) (σ := s.store) (l := fl) rb 0 id with ⟨j, b, k1, k2, k3⟩ | ⟨k1, k2⟩
    · exact .inl ⟨j, b, k1, by simpa using k2, k3⟩
    · exact .inr ⟨fun j hj => by simpa using k1 j hj, k2⟩
  have hfl : ∀ id blk, wrs s.store fl id = some blk → ∃ blk0, s.store id = some blk0 ∧ blk.ver = blk0.ver ∧ blk.flat = blk0.flat ∧ blk.cells = blk0.cells ∧ (blk.own = true → blk0.own = true ∧ (fz = true → id ∉ tl1 ++ tl2)) := by
    intro id blk hb
    by_cases hf : fz = true
    · have e : fl = frzL s.store (tl1 ++ tl2) := by simp [fl, hf]
      rw [e, wrs_frzL] at hb
      split at hb
      · cases hs : s.store id with
        | none => rw [hs] at hb; cases hb
        | some b0 => rw [hs] at hb; injection hb with hb; subst hb; exact ⟨b0, rfl, rfl, rfl, rfl, fun h => by cases h⟩
      · rename_i hm
        exact ⟨blk, hb, rfl, rfl, rfl, fun h => ⟨h, fun _ => hm⟩⟩
    · have e : fl = [] := by simp [fl, hf]
      rw [e] at hb
      exact ⟨blk, hb, rfl, rfl, rfl, fun h => ⟨h, fun h => absurd h hf⟩⟩
  have hfl' : ∀ id blk0, s.store id = some blk0 → ∃ blk, wrs s.store fl id = some blk ∧ blk.ver = blk0.ver := by
    intro id blk0 hb
    by_cases hf : fz = true
    · have e : fl = frzL s.store (tl1 ++ tl2) := by simp [fl, hf]
      rw [e, wrs_frzL]
      split
      · rw [hb]; exact ⟨_, rfl, rfl⟩
      · exact ⟨blk0, hb, rfl⟩
    · have e : fl = [] := by simp [fl, hf]
      rw [e]; exact ⟨blk0, hb, rfl⟩
  -- where the blocks lie now
  let find : Id → Option Nat := fun id => (List.range rb.length).find? fun j => decide (id = nid io d g j)
  let β3 : Id → Option (Nat × Nat) := fun id => match find id with | some j => β1 ⟨0, 0, j⟩ | none => β id
  have hfind : ∀ j, j < rb.length → β3 (nid io d g j) = β1 ⟨0, 0, j⟩ := by
    intro j hj
    have : find (nid io d g j) = some j := by
      cases hfd : find (nid io d g j) with
      | none =>
        have := List.find?_eq_none.1 hfd j (by simpa using hj)
        simp at this
      | some i =>
        have h1 := List.find?_some hfd
        have h2 := List.mem_of_find?_eq_some hfd
        simp at h1 h2
        exact congrArg some (hnid_inj j i hj h2 h1).symm
    simp only [β3, this]
  have hfindn : ∀ id, (∀ j, j < rb.length → id ≠ nid io d g j) → β3 id = β id := by
    intro id h
    have : find id = none := by
      refine List.find?_eq_none.2 fun j hj => ?_
      simp at hj ⊢
      exact h j hj
    simp only [β3, this]
  have hkeepsD : ∀ g', (env c β s.store w).D g' → ¬ c'.IS g' := by
    rintro g' hD ⟨id, b, o, hb, hbe⟩
    obtain ⟨id0, blk, y, m1, m2, m3, m4, m5, m6⟩ := hst id b hb
    rw [m5] at hbe
    exact hD.2.2 id0 blk o m2 (expB_spec m3).1 hbe
  have hrbl : ∀ j, j < rb.length → stOf rb ⟨0, 0, j⟩ = some (rb.getD j ⟨0, false, true, []⟩) := by
    intro j hj; simp [stOf, List.getD, hj]
  have hloc : ∀ (j : Nat) (b : Blk) (g' o' : Nat), rb[j]? = some b → β1 ⟨0, 0, j⟩ = some (g', o') → w.heap.size ≤ g' ∨ ∃ id0 blk oo, io[j]? = some id0 ∧ s.store id0 = some blk ∧ blk.own = true ∧ β id0 = some (g', oo) := by
    intro j b g' o' hb hbe
    have hb' : stOf rb ⟨0, 0, j⟩ = some b := by simp [stOf, hb]
    obtain ⟨hl, _⟩ := (hL.st.1 (⟨0, 0, j⟩ : Id) b hb').at_ (g := g') (o := o') hbe
    rcases hl with hl | ⟨_, _, b0, oo, k1, k2⟩
    · exact .inl hl
    · obtain ⟨id0, blk, y, m1, m2, m3, m4, m5, m6⟩ := hst _ b0 k1
      rw [m5] at k2
      exact .inr ⟨id0, blk, oo, m1, m2, (expB_spec m3).1, k2⟩
  have hkeeps : Keeps c.w0.heap.size c.IS w w' := by
    refine ⟨hL.keeps.os, hL.keeps.tape, hL.keeps.output, hL.keeps.size, fun k hk hn' => ?_, hL.keeps.room⟩
    have hsz : c.w0.heap.size ≤ w.heap.size := hr.keeps.size
    refine hL.keeps.block k (show k < w.heap.size by omega) ?_
    rintro ⟨id, b, o, hb, hbe⟩
    obtain ⟨id0, blk, y, m1, m2, m3, m4, m5, m6⟩ := hst id b hb
    rw [m5] at hbe
    obtain ⟨hl, _⟩ := (hr.blocks id0 blk m2).at_ (g := k) (o := o) hbe
    rcases hl with hl | ⟨_, _, hl⟩
    · omega
    · exact hn' ⟨_, hl⟩
  have L : (env c β s.store w).Le (env c β3 σ3 w') := by
    refine ⟨?_, fun g' hD => hL.keeps.block g' hD.1 (hkeepsD g' hD), hL.keeps.room, ?_⟩
    · intro g' hD
      refine ⟨Nat.lt_of_lt_of_le hD.1 hL.keeps.size, hD.2.1, fun id blk o hb ho hbe => ?_⟩
      have hb : σ3 id = some blk := hb
      have hbe : β3 id = some (g', o) := hbe
      rcases hσ3 id with ⟨j, b, k1, k2, k3⟩ | ⟨k1, k2⟩
      · have hj : j < rb.length := (List.getElem?_eq_some_iff.1 k1).1
        rw [k2, hfind j hj] at hbe
        rcases hloc j b g' o k1 hbe with hh | ⟨id0, blk0, oo, q1, q2, q3, q4⟩
        · have hlt : g' < w.heap.size := hD.1
          omega
        · exact hD.2.2 id0 blk0 oo q2 q3 q4
      · rw [k2] at hb
        obtain ⟨blk0, q1, q2, q3, q4, q5⟩ := hfl id blk hb
        rw [hfindn id k1] at hbe
        exact hD.2.2 id blk0 o q1 (q5 ho).1 hbe
    · intro id blk hb
      have hb : s.store id = some blk := hb
      rcases hσ3 id with ⟨j, b, k1, k2, k3⟩ | ⟨k1, k2⟩
      · have hj : j < rb.length := (List.getElem?_eq_some_iff.1 k1).1
        cases hio : io[j]? with
        | none =>
          have e : id = ⟨d, g, j⟩ := by rw [k2]; simp [nid, hio]
          rw [e, hnew_no] at hb; cases hb
        | some id0 =>
          have e : id = id0 := by rw [k2]; simp [nid, hio]
          subst e
          obtain ⟨blk', b0, y, m1, m2, m3, m4⟩ := b2 j id hio
          rw [hb] at m1; injection m1 with m1; subst m1
          obtain ⟨q1, q2, q3, _⟩ := expB_spec m2
          have hs0 : stOf ib ⟨0, 0, j⟩ = some b0 := by simp [stOf, m3]
          obtain ⟨b', n1, n2, n3⟩ := hL.old _ b0 hs0
          have e2 : b' = b := by
            have : stOf rb ⟨0, 0, j⟩ = some b := by simp [stOf, k1]
            rw [this] at n1; injection n1 with n1; exact n1.symm
          subst e2
          refine ⟨renB io d g b', k3, ?_, fun hv => ?_⟩
          · have : (renB io d g b').ver = b'.ver := by unfold renB; split <;> rfl
            omega
          · have hv' : (renB io d g b').ver = b'.ver := by unfold renB; split <;> rfl
            show β3 id = β id
            rw [k2, hfind j hj, n3 (by omega), hβ0 j id hio, ← k2]
      · obtain ⟨blk', q1, q2⟩ := hfl' id blk hb
        refine ⟨blk', by show σ3 id = some blk'; rw [k2]; exact q1, by omega, fun _ => hfindn id k1⟩
  -- results in the caller's words
  have hres : fz = true → RenEnv (env c' β1 (stOf rb) w') (env c β3 σ3 w') io d g := by
    intro hf
    refine ⟨rfl, ?_, ?_⟩
    · rintro g' ⟨k1, k2, k3⟩
      have hB : c.w0.heap.size ≤ w.heap.size := hr.keeps.size
      refine ⟨k1, ?_, fun id blk o hb ho hbe => ?_⟩
      · rcases k2 with (k2 | ⟨id, hid, hne, blk, oo, hb, hbe⟩) | k2
        · exact k2.2.1
        · obtain ⟨hl, _⟩ := (hr.blocks id blk hb).at_ (g := g') (o := oo) hbe
          rcases hl with hl | ⟨e1, e2, _⟩
          · exact .inr hl
          · rcases hne with hne | hne
            · exact absurd e1 hne
            · exact absurd e2 hne
        · exact .inr (Nat.le_trans hB k2)
      · have hb : σ3 id = some blk := hb
        have hbe : β3 id = some (g', o) := hbe
        rcases hσ3 id with ⟨j, b, m1, m2, m3⟩ | ⟨m1, m2⟩
        · have hj : j < rb.length := (List.getElem?_eq_some_iff.1 m1).1
          rw [m2, hfind j hj] at hbe
          rw [m3] at hb; injection hb with hb; subst hb
          have hbo : b.own = true := by revert ho; unfold renB; split <;> exact fun h => h
          exact k3 ⟨0, 0, j⟩ b o (by show stOf rb ⟨0, 0, j⟩ = some b; simp [stOf, m1]) hbo hbe
        · rw [m2] at hb
          obtain ⟨blk0, q1, q2, q3, q4, q5⟩ := hfl id blk hb
          rw [hfindn id m1] at hbe
          obtain ⟨q6, q7⟩ := q5 ho
          rcases k2 with (k2 | ⟨id', hid', hne, blk', oo, hb', hbe'⟩) | k2
          · exact k2.2.2 id blk0 o q1 q6 hbe
          · have := hr.inj id id' blk0 blk' g' o oo q1 hb' q6 hbe hbe'
            subst this
            exact q7 hf hid'
          · have := (hr.blocks id blk0 q1).lt (g := g') (o := o) hbe
            exact absurd (show g' < w.heap.size from this) (Nat.not_lt.2 k2)
    · intro id b hb
      have hb : stOf rb id = some b := hb
      obtain ⟨e, hb'⟩ := stOf_spec hb
      have hj : id.j < rb.length := (List.getElem?_eq_some_iff.1 hb').1
      rcases hσ3 (nid io d g id.j) with ⟨j, b', m1, m2, m3⟩ | ⟨m1, m2⟩
      · have hj' : j < rb.length := (List.getElem?_eq_some_iff.1 m1).1
        have := hnid_inj _ _ hj hj' m2
        subst this
        rw [hb'] at m1; injection m1 with m1; subst m1
        refine ⟨renB io d g b, m3, by unfold renB; split <;> rfl, ?_⟩
        show β3 (nid io d g id.j) = β1 id
        rw [hfind _ hj, ← e]
      · exact absurd rfl (m1 id.j hj)
  have hrv : VR (env c β3 σ3 w') (renP io d g r) v := by
    rcases hfz with hf | ⟨_, hsc⟩
    · exact renP_VR (hres hf) hcr hL.vr
    · exact scalarP_VR hsc hL.vr
  let gens' : Nat → Nat := if decide (io.length < rb.length) then upd s.gens d (s.gens d + 1) else s.gens
  have hgens : ∀ id blk, σ3 id = some blk → id.g < gens' id.d := by
    intro id blk hb
    have hold : ∀ id blk0, s.store id = some blk0 → id.g < gens' id.d := by
      intro id blk0 hb0
      have := hr.gens id blk0 hb0
      simp only [gens']
      split
      · by_cases e : id.d = d
        · rw [e] at this ⊢; simp; omega
        · rw [upd_other _ _ _ _ e]; exact this
      · exact this
    rcases hσ3 id with ⟨j, b, k1, k2, k3⟩ | ⟨k1, k2⟩
    · have hj : j < rb.length := (List.getElem?_eq_some_iff.1 k1).1
      cases hio : io[j]? with
      | none =>
        have e : id = ⟨d, g, j⟩ := by rw [k2]; simp [nid, hio]
        have hlt : io.length < rb.length := by
          have := List.getElem?_eq_none_iff.1 hio; omega
        rw [e]
        simp only [gens', hlt, decide_true, if_true, upd_same]
        omega
      | some id0 =>
        have e : id = id0 := by rw [k2]; simp [nid, hio]
        subst e
        obtain ⟨blk0, hb0, _⟩ := hio_st j id hio
        exact hold id blk0 hb0
    · rw [k2] at hb
      obtain ⟨blk0, q1, _⟩ := hfl id blk hb
      exact hold id blk0 q1
  have hturn := hr.turn (β' := β3) (w' := w') σ3 gens' hkeeps L (fun id blk hb => ?_) (fun id id' blk blk' g' o o' hb hb' ho hbe hbe' => ?_) hgens
  · refine hK _ _ ⟨β3, (hturn.put o.dst (renP io d g r) v hnt fun _ _ => hrv).congr_store ?_ ?_ ?_⟩
    · simp only [St.eff, callE]
      cases o.dst <;> rfl
    · simp only [St.eff, callE]
      cases o.dst <;> rfl
    · simp only [St.eff, callE, gens', hd0]
      cases o.dst <;> rfl
  · -- the blocks
    rcases hσ3 id with ⟨j, b, k1, k2, k3⟩ | ⟨k1, k2⟩
    · have hj : j < rb.length := (List.getElem?_eq_some_iff.1 k1).1
      rw [k3] at hb; injection hb with hb; subst hb
      have hne : rb ≠ [] := by intro e; rw [e] at hj; simp at hj
      have hf : fz = true := by
        rcases hfz with hf | ⟨hf, _⟩
        · exact hf
        · exact absurd hf hne
      have hX := hres hf
      have hsb : stOf rb ⟨0, 0, j⟩ = some b := by simp [stOf, k1]
      have hrel := hL.st.1 (⟨0, 0, j⟩ : Id) b hsb
      cases hbe : β1 ⟨0, 0, j⟩ with
      | none =>
        unfold BlkRel at hrel ⊢
        have e1 : (env c' β1 (stOf rb) w').β ⟨0, 0, j⟩ = none := hbe
        have e2 : (env c β3 σ3 w').β id = none := by show β3 id = none; rw [k2, hfind j hj, hbe]
        rw [e1] at hrel
        rw [e2]
        simp only at hrel ⊢
        unfold renB
        split
        · exact hrel
        · simp [hrel]
      | some go =>
        obtain ⟨g', o⟩ := go
        obtain ⟨hl, cc, e, fzz, hat⟩ := hrel.at_ (g := g') (o := o) hbe
        have hβ3 : (env c β3 σ3 w').β id = some (g', o) := by show β3 id = some (g', o); rw [k2, hfind j hj, hbe]
        refine BlkAt.rel (g := g') (o := o) (c := cc) (e := e) (fz := fzz) ⟨hat.heap, fun h => hat.own (by revert h; unfold renB; split <;> exact fun h => h), ?_, fun i hi => ?_, fun i hi => ?_⟩ hβ3 ?_
        · unfold renB; split
          · exact hat.size
          · simpa using hat.size
        · unfold renB at hi ⊢
          split at hi
          · rename_i hfl
            rw [if_pos hfl]
            have hc := hat.cell i hi
            rw [if_pos hfl] at hc ⊢
            exact hc.mono hX.bare
          · rename_i hfl
            rw [if_neg hfl]
            simp at hi
            have hc := hat.cell i hi
            have hfl' : b.flat = false := by simpa using hfl
            simp only [hfl', Bool.false_eq_true, if_false] at hc ⊢
            rw [getD_map _ _ hi]
            refine renC_VR hX ?_ hc
            rcases hcb b (List.mem_of_getElem? k1) with h | h
            · exact absurd h hfl
            · exact all_getD h hi
        · unfold renB at hi
          split at hi
          · exact hat.one i hi
          · exact hat.one i (by simpa using hi)
        · have hB : c.w0.heap.size ≤ w.heap.size := hr.keeps.size
          rcases hloc j b g' o k1 hbe with hh | ⟨id0, blk0, oo, q1, q2, q3, q4⟩
          · exact .inl (Nat.le_trans hB hh)
          · obtain ⟨hl0, _⟩ := (hr.blocks id0 blk0 q2).at_ (g := g') (o := oo) q4
            have e0 : id = id0 := by rw [k2]; simp [nid, q1]
            rw [e0]; exact hl0
    · rw [k2] at hb
      obtain ⟨blk0, q1, q2, q3, q4, q5⟩ := hfl id blk hb
      have hrel := hr.blocks id blk0 q1
      have hβ3 : β3 id = β id := hfindn id k1
      cases hbe : β id with
      | none =>
        unfold BlkRel at hrel ⊢
        have e1 : (env c β s.store w).β id = none := hbe
        have e2 : (env c β3 σ3 w').β id = none := by show β3 id = none; rw [hβ3, hbe]
        rw [e1] at hrel
        rw [e2]
        simp only at hrel ⊢
        rw [q4]; exact hrel
      | some go =>
        obtain ⟨g', o⟩ := go
        have hlt := hrel.lt (g := g') (o := o) hbe
        obtain ⟨hl, cc, e, fzz, hat⟩ := hrel.at_ (g := g') (o := o) hbe
        have hheap : w'.heap[g']? = some (.cells cc e fzz) := by
          refine (hL.keeps.block g' hlt ?_).trans hat.heap
          rintro ⟨id1, b1, o1, hb1, hbe1⟩
          obtain ⟨id0, blk1, y, m1, m2, m3, m4, m5, m6⟩ := hst id1 b1 hb1
          rw [m5] at hbe1
          have := hr.inj id0 id blk1 blk0 g' o1 o m2 q1 (expB_spec m3).1 hbe1 hbe
          subst this
          have hjlt : id1.j < rb.length := Nat.lt_of_lt_of_le (List.getElem?_eq_some_iff.1 m1).1 hlen
          exact k1 id1.j hjlt (by simp [nid, m1])
        refine BlkAt.rel (g := g') (o := o) (c := cc) (e := e) (fz := fzz) ⟨hheap, fun h => hat.own (q5 h).1, by rw [q4]; exact hat.size, fun i hi => ?_, fun i hi => hat.one i (by rw [← q4]; exact hi)⟩ (by show β3 id = some (g', o); rw [hβ3, hbe]) hl
        rw [q4] at hi ⊢
        rw [q3]
        have hc := hat.cell i hi
        split
        · rename_i hfl; rw [if_pos hfl] at hc; exact hc.mono L.bare
        · rename_i hfl; rw [if_neg hfl] at hc; exact hc.mono L
  · -- apart
    have hbe : β3 id = some (g', o) := hbe
    have hbe' : β3 id' = some (g', o') := hbe'
    rcases hσ3 id with ⟨j, b, k1, k2, k3⟩ | ⟨k1, k2⟩ <;> rcases hσ3 id' with ⟨j', b', k1', k2', k3'⟩ | ⟨k1', k2'⟩
    · have hj : j < rb.length := (List.getElem?_eq_some_iff.1 k1).1
      have hj' : j' < rb.length := (List.getElem?_eq_some_iff.1 k1').1
      rw [k2, hfind j hj] at hbe
      rw [k2', hfind j' hj'] at hbe'
      rw [k3] at hb; injection hb with hb; subst hb
      have hbo : b.own = true := by revert ho; unfold renB; split <;> exact fun h => h
      have := hL.st.2 ⟨0, 0, j⟩ ⟨0, 0, j'⟩ b b' g' o o' (by simp [env, stOf, k1]) (by simp [env, stOf, k1']) hbo hbe hbe'
      have hjj : j = j' := by injection this
      rw [k2, k2', hjj]
    · have hj : j < rb.length := (List.getElem?_eq_some_iff.1 k1).1
      rw [k2, hfind j hj] at hbe
      rw [hfindn id' k1'] at hbe'
      rw [k2'] at hb'
      obtain ⟨blk0, q1, _⟩ := hfl id' blk' hb'
      rcases hloc j b g' o k1 hbe with hh | ⟨id0, blk1, oo, r1, r2, r3, r4⟩
      · have := (hr.blocks id' blk0 q1).lt (g := g') (o := o') hbe'
        exact absurd (show g' < w.heap.size from this) (Nat.not_lt.2 hh)
      · have := hr.inj id0 id' blk1 blk0 g' oo o' r2 q1 r3 r4 hbe'
        subst this
        exact absurd (by simp [nid, r1]) (k1' j hj)
    · have hj' : j' < rb.length := (List.getElem?_eq_some_iff.1 k1').1
      rw [hfindn id k1] at hbe
      rw [k2', hfind j' hj'] at hbe'
      rw [k2] at hb
      obtain ⟨blk0, q1, q2, q3, q4, q5⟩ := hfl id blk hb
      rcases hloc j' b' g' o' k1' hbe' with hh | ⟨id0, blk1, oo, r1, r2, r3, r4⟩
      · have := (hr.blocks id blk0 q1).lt (g := g') (o := o) hbe
        exact absurd (show g' < w.heap.size from this) (Nat.not_lt.2 hh)
      · have := hr.inj id id0 blk0 blk1 g' o oo q1 r2 (q5 ho).1 hbe r4
        subst this
        exact absurd (by simp [nid, r1]) (k1 j' hj')
    · rw [hfindn id k1] at hbe
      rw [hfindn id' k1'] at hbe'
      rw [k2] at hb
      rw [k2'] at hb'
      obtain ⟨blk0, q1, q2, q3, q4, q5⟩ := hfl id blk hb
      obtain ⟨blk0', q1', _⟩ := hfl id' blk' hb'
      exact hr.inj id id' blk0 blk0' g' o o' q1 q1' (q5 ho).1 hbe hbe'

theorem opEff_call {P : Program} {o : Oper} {s : St} {f : FuncId} {x : Operand} {args : Array Operand} {at_ : Array TypeId} (ho : o.op = .call { callee := .value x, args := args, argTypes := at_ }) (hx : pv s.frame x = .fn f [] []) (hf : FnOk P f)
    {io tl1 tl2 : List Id} {ps : List PV} {ib rb : List Blk} {r : PV} (h1 : expL (expA s.store io) (args.toList.map (pv s.frame)) = some (ps, tl1)) (h2 : expBs s.store io io = some (ib, tl2)) (hn : io.Nodup) (hni : ∀ id ∈ tl1 ++ tl2, id ∉ io)
    (hc : CallOk P f ps ib r rb) (hcr : cellP r = true) (hcb : ∀ b ∈ rb, b.flat = true ∨ b.cells.all cellB = true) (hlen : io.length ≤ rb.length) (hd : rb.length = io.length ∨ o.dst ≠ none) {fz : Bool} (hfz : fz = true ∨ (rb = [] ∧ scalarP r = true)) (hdst : ∃ d, o.dst = some d) :
    OpEff P o s (callE io (tl1 ++ tl2) (o.dst.getD 0) (s.gens (o.dst.getD 0)) r rb fz s.store) := by
  refine ⟨fun s' k1 k2 k3 => ?_⟩
  have hg : s'.gens (o.dst.getD 0) = s.gens (o.dst.getD 0) := by
    obtain ⟨d, hd'⟩ := hdst
    rw [hd']; exact k3 d hd'
  have hio : ∀ id ∈ io, s'.store id = s.store id := fun id hid => k2 id (by simp [callE, hid])
  have ht1 : ∀ id ∈ tl1, s'.store id = s.store id := fun id hid => k2 id (by simp [callE, hid])
  have ht2 : ∀ id ∈ tl2, s'.store id = s.store id := fun id hid => k2 id (by simp [callE, hid])
  have e1 : args.toList.map (pv s'.frame) = args.toList.map (pv s.frame) := List.map_congr_left fun y hy => k1 y (by simp [ho, Op.operands, Call.operands]; exact .inr (by simpa using hy))
  have e2 : callE io (tl1 ++ tl2) (o.dst.getD 0) (s.gens (o.dst.getD 0)) r rb fz s.store = callE io (tl1 ++ tl2) (o.dst.getD 0) (s'.gens (o.dst.getD 0)) r rb fz s'.store := by
    unfold callE
    rw [hg, frzL_congr (σ := s.store) (σ' := s'.store) (tl1 ++ tl2) (fun id hid => by
      rcases List.mem_append.1 hid with h | h
      · exact ht1 id h
      · exact ht2 id h)]
  rw [e2]
  refine call_sim ho ?_ hf (ps := ps) (ib := ib) ?_ ?_ hn hni hc hcr hcb hlen hd hfz
  · rw [k1 x (by simp [ho, Op.operands, Call.operands])]; exact hx
  · rw [e1]
    exact expL_congr (ok := fun id => s'.store id = s.store id) (fun p q x h1 h2 => expA_congr h1 hio h2) h1 ht1
  · exact expBs_congr hio h2 hio ht2

end Go.Proofs.YtabofinagjdljaaE
