/- New blocks, stores, and what is no longer written. -/
import Derived.Test.YtabofinagjdljaaEf
set_option linter.unusedVariables false
set_option linter.unusedSimpArgs false
namespace Go.Proofs.YtabofinagjdljaaE
open Go.RowKit

/-! ### freezing -/
def frzL (σ : Id → Option Blk) (ids : List Id) : List (Id × Blk) := ids.filterMap fun id => (σ id).map fun b => (id, { b with own := false })

theorem wrs_frzL (σ : Id → Option Blk) : ∀ (ids : List Id) (id : Id), wrs σ (frzL σ ids) id = if id ∈ ids then (σ id).map (fun b => { b with own := false }) else σ id
  | [], id => by simp [frzL, wrs]
  | x :: ids, id => by
    have ih := wrs_frzL σ ids id
    cases hx : σ x with
    | none =>
      have e : frzL σ (x :: ids) = frzL σ ids := by simp [frzL, hx]
      rw [e, ih]
      by_cases h : id = x
      · subst h; simp [hx]
      · simp [h]
    | some b =>
      have e : frzL σ (x :: ids) = (x, { b with own := false }) :: frzL σ ids := by simp [frzL, hx]
      have e2 : wrs σ ((x, { b with own := false }) :: frzL σ ids) = updI (wrs σ (frzL σ ids)) x (some { b with own := false }) := rfl
      rw [e, e2]
      by_cases h : id = x
      · subst h; simp [hx]
      · rw [updI_other _ _ _ _ h, ih]; simp [h]

theorem RelB.congr_store {c : Ctx} {β : Id → Option (Nat × Nat)} {s : St} {a : Act} {w : World} (h : RelB c β s a w) {s' : St} (e1 : s'.frame = s.frame) (e2 : s'.store = s.store) (e3 : s'.gens = s.gens) : RelB c β s' a w := by
  obtain ⟨f, σ, g⟩ := s
  obtain ⟨f', σ', g'⟩ := s'
  simp only at e1 e2 e3
  subst e1; subst e2; subst e3
  exact h

theorem RelB.freezes {c : Ctx} {β : Id → Option (Nat × Nat)} {s : St} {a : Act} {w : World} (h : RelB c β s a w) : ∀ (ids : List Id), RelB c β { s with store := wrs s.store (frzL s.store ids) } a w
  | [] => h.congr_store rfl (by simp [wrs, frzL]) rfl
  | x :: ids => by
    have ih := RelB.freezes h ids
    cases hx : s.store x with
    | none =>
      have e : frzL s.store (x :: ids) = frzL s.store ids := by simp [frzL, hx]
      rw [e]; exact ih
    | some b =>
      have h1 := wrs_frzL s.store ids x
      by_cases hm : x ∈ ids
      · rw [if_pos hm, hx] at h1
        refine (ih.freeze x _ h1).congr_store rfl ?_ rfl
        simp [frzL, hx, wrs]
      · rw [if_neg hm, hx] at h1
        refine (ih.freeze x _ h1).congr_store rfl ?_ rfl
        simp [frzL, hx, wrs]

/-- A cell as it may lie in a block of plain cells: what is of the call's own is read as a tree, and no longer written. -/
def flatC (σ : Id → Option Blk) : PV → Option (PV × List Id)
  | .int k n => some (.int k n, [])
  | .bool b => some (.bool b, [])
  | .str s => some (.str s, [])
  | .nilS => some (.rd [] 0, [])
  | .nilP => some (.nilP, [])
  | .nilI => some (.nilI, [])
  | .nilF => some (.nilF, [])
  | .rd l n => some (.rd l n, [])
  | .rp l => some (.rp l, [])
  | .sl id ver off n sz => match live σ id ver with
    | some blk => if blk.flat = true ∧ off + n * sz ≤ blk.cells.length ∧ (id.d ≠ 0 ∨ id.g ≠ 0) then some (.rd ((blk.cells.drop off).take (n * sz)) n, [id]) else none
    | none => none
  | _ => none

def flatCs (σ : Id → Option Blk) : List PV → Option (List PV × List Id)
  | [] => some ([], [])
  | p :: r => match flatC σ p, flatCs σ r with
    | some (q, x), some (l, y) => some (q :: l, x ++ y)
    | _, _ => none

theorem rd_of_sl {c : Ctx} {β : Id → Option (Nat × Nat)} {s : St} {a : Act} {w : World} (h : RelB c β s a w) {id : Id} {ver off n sz : Nat} {blk : Blk} {v : Value} (hb : s.store id = some blk) (ho : blk.own = false) (hf : blk.flat = true) (hv : blk.ver = ver)
    (hl : off + n * sz ≤ blk.cells.length) (hi : id.d ≠ 0 ∨ id.g ≠ 0) (hx : VR (env c β s.store w) (.sl id ver off n sz) v) : VR (env c β s.store w).bare (.rd ((blk.cells.drop off).take (n * sz)) n) v := by
  have hs := hx.sl_inv hb hv
  have hr := h.blocks id blk hb
  unfold SlAt at hs
  split at hs
  · rename_i hβ
    obtain ⟨rfl, rfl⟩ := hs
    rw [Nat.zero_mul, List.take_zero]
    exact .rd0 _ _ _ (Nat.le_refl _)
  · rename_i g o hβ
    obtain ⟨cap, rfl, h1, h2, h3⟩ := hs
    obtain ⟨h0, cc, e, fz, hat⟩ := hr.at_ hβ
    have hB : c.w0.heap.size ≤ g := by
      rcases h0 with h0 | ⟨k1, k2, _⟩
      · exact h0
      · rcases hi with hi | hi
        · exact absurd k1 hi
        · exact absurd k2 hi
    have hsz := hat.size
    have hlt : ∀ j, j < ((blk.cells.drop off).take (n * sz)).length → off + j < blk.cells.length ∧ j < n * sz := by
      intro j hj; simp at hj; omega
    refine .rd _ _ _ _ (fun j => cc.getD (o + (off + j)) undef) h1 ⟨hr.lt hβ, .inr hB, fun id' blk' o' q1 q2 q3 => ?_⟩ (fun j hj => ?_) (fun j hj => ?_) fun j hj => ?_
    · have := h.inj id' id blk' blk g o' o q1 hb q2 q3 hβ
      subst this
      rw [hb] at q1; injection q1 with q1; subst q1
      rw [ho] at q2; cases q2
    · obtain ⟨hj1, hj2⟩ := hlt j hj
      rw [add_lit]
      have := cell_of_row w g (o + off + j) cc e fz hat.heap
      have hin : o + off + j < cc.size := by omega
      rw [agetD cc _ hin] at this
      rw [← Nat.add_assoc]
      exact this
    · obtain ⟨hj1, hj2⟩ := hlt j hj
      rw [getD_take _ _ _ hj2, getD_drop]
      have := hat.cell (off + j) hj1
      rw [if_pos hf] at this
      exact this
    · exact hat.one (off + j) (hlt j hj).1

/-- After the freezing, the plain form stands for the same value. -/
theorem flatC_VR {c : Ctx} {β : Id → Option (Nat × Nat)} {s : St} {a : Act} {w : World} (h : RelB c β s a w) {p q : PV} {x ids : List Id} (hc : flatC s.store p = some (q, x)) (hsub : ∀ id ∈ x, id ∈ ids) {v : Value} (hv : VR (env c β s.store w) p v) :
    VR (env c β (wrs s.store (frzL s.store ids)) w).bare q v ∧ v.oneCell' = true := by
  have hF := h.freezes ids
  have L : (env c β s.store w).Le (env c β (wrs s.store (frzL s.store ids)) w) := by
    refine ⟨?_, fun _ _ => rfl, fun _ _ h => h, ?_⟩
    · rintro g ⟨h1, h2, h3⟩
      refine ⟨h1, h2, fun id blk o q1 q2 q3 => ?_⟩
      have q1 : wrs s.store (frzL s.store ids) id = some blk := q1
      rw [wrs_frzL] at q1
      split at q1
      · cases hs : s.store id with
        | none => rw [hs] at q1; cases q1
        | some b => rw [hs] at q1; injection q1 with q1; subst q1; cases q2
      · exact h3 id blk o q1 q2 q3
    · intro id blk hs
      simp only [env] at hs ⊢
      rw [wrs_frzL]
      split
      · rw [hs]; exact ⟨_, rfl, Nat.le_refl _, fun _ => by trivial⟩
      · exact ⟨blk, hs, Nat.le_refl _, fun _ => by trivial⟩
  unfold flatC at hc
  split at hc <;> first | (injection hc with hc; injection hc with h1 h2; subst h1) | skip
  · exact ⟨by rw [hv.int_inv]; exact .int _ _, hv.leaf_one rfl⟩
  · exact ⟨by rw [hv.bool_inv]; exact .bool _, hv.leaf_one rfl⟩
  · exact ⟨by rw [hv.str_inv]; exact .str _, hv.leaf_one rfl⟩
  · exact ⟨by rw [hv.nilS_inv]; exact .rd0 _ _ _ (Nat.le_refl _), hv.leaf_one rfl⟩
  · exact ⟨by rw [hv.nilP_inv]; exact .nilP, hv.leaf_one rfl⟩
  · exact ⟨by rw [hv.nilI_inv]; exact .nilI, hv.leaf_one rfl⟩
  · exact ⟨by rw [hv.nilF_inv]; exact .nilF, hv.leaf_one rfl⟩
  · refine ⟨?_, hv.leaf_one rfl⟩
    have hv := hv.mono L
    cases hv with
    | rd0 n A c h1 => exact .rd0 _ _ _ h1
    | rd l n a c us h1 h2 h3 h4 h5 => exact .rd _ _ _ _ us h1 h2 h3 h4 h5
  · refine ⟨?_, hv.leaf_one rfl⟩
    have hv := hv.mono L
    cases hv with
    | rp l a us h2 h3 h4 h5 => exact .rp _ _ us h2 h3 h4 h5
  · rename_i id ver off n sz
    split at hc
    · rename_i blk hl
      split at hc
      · rename_i hcond
        injection hc with hc; injection hc with h1 h2; subst h1
        refine ⟨?_, hv.leaf_one rfl⟩
        obtain ⟨hb, hver⟩ := live_spec hl
        have hmem : id ∈ ids := hsub id (by simp [← h2])
        have hv' := hv.mono L
        have hst : wrs s.store (frzL s.store ids) id = some { blk with own := false } := by rw [wrs_frzL, if_pos hmem, hb]; rfl
        exact rd_of_sl (s := { s with store := wrs s.store (frzL s.store ids) }) hF (blk := { blk with own := false }) hst rfl hcond.1 hver hcond.2.1 hcond.2.2 hv'
      · cases hc
    · cases hc
  · cases hc

theorem flatCs_VR {c : Ctx} {β : Id → Option (Nat × Nat)} {s : St} {a : Act} {w : World} (h : RelB c β s a w) (ids : List Id) : ∀ (ps qs : List PV) (x : List Id), flatCs s.store ps = some (qs, x) → (∀ id ∈ x, id ∈ ids) →
    qs.length = ps.length ∧ ∀ j, j < ps.length → ∀ v, VR (env c β s.store w) (ps.getD j .any) v → VR (env c β (wrs s.store (frzL s.store ids)) w).bare (qs.getD j .any) v ∧ v.oneCell' = true
  | [], qs, x, hc, _ => by injection hc with hc; injection hc with h1 h2; subst h1; exact ⟨rfl, by simp⟩
  | p :: ps, qs, x, hc, hsub => by
    simp only [flatCs] at hc
    split at hc
    · rename_i q x1 l y h1 h2
      injection hc with hc; injection hc with e1 e2; subst e1; subst e2
      obtain ⟨k1, k2⟩ := flatCs_VR h ids ps l y h2 (fun id hid => hsub id (by simp [hid]))
      refine ⟨by simp [k1], fun j hj v hv => ?_⟩
      cases j with
      | zero => simp at hv ⊢; exact flatC_VR h h1 (fun id hid => hsub id (by simp [hid])) hv
      | succ j => simp at hv ⊢; have := k2 j (by simpa using hj) v (by simpa using hv); simpa using this
    · cases hc

/-! ### a new block -/
theorem St.no_new {c : Ctx} {β : Id → Option (Nat × Nat)} {s : St} {a : Act} {w : World} (h : RelB c β s a w) (d j : Nat) : s.store ⟨d, s.gens d, j⟩ = none := by
  cases hs : s.store ⟨d, s.gens d, j⟩ with
  | none => rfl
  | some blk => have := h.gens _ _ hs; simp at this

theorem RelB.new {c : Ctx} {β : Id → Option (Nat × Nat)} {s : St} {a : Act} {w : World} (h : RelB c β s a w) (d : Nat) (flat : Bool) (L : List PV) (cs : Array Value) (e : TypeId) (hs : L.length ≤ cs.size)
    (hv : ∀ j, j < L.length → VR (if flat then (env c β s.store w).bare else env c β s.store w) (L.getD j .any) (cs.getD j undef)) (h1 : ∀ j, j < L.length → (cs.getD j undef).oneCell' = true) :
    RelB c (updI β ⟨d, s.gens d, 0⟩ (some (w.heap.size, 0))) { s with store := updI s.store ⟨d, s.gens d, 0⟩ (some ⟨0, true, flat, L⟩), gens := upd s.gens d (s.gens d + 1) } a (w.alloc (.cells cs e)) := by
  have hno := St.no_new h d 0
  have hB := h.keeps.size
  refine h.write ⟨d, s.gens d, 0⟩ _ w.heap.size 0 _ (Keeps.alloc _ _ w _ hB) (fun k _ hk => heap_alloc_old w _ k hk) (.inl (Nat.le_refl _)) (fun blk hb => by rw [hno] at hb; cases hb) (fun Le => ?_) (fun id blk hb => ?_) (by simp)
  · refine BlkAt.rel (g := w.heap.size) (o := 0) (c := cs) (e := e) (fz := (0, 0)) ⟨heap_alloc_new w _, fun _ => rfl, by simpa using hs, fun j hj => ?_, fun j hj => ?_⟩ (by simp [env]) (.inl hB)
    · rw [Nat.zero_add]
      have := hv j hj
      dsimp only
      split
      · rename_i hf; rw [if_pos hf] at this; exact this.mono Le.bare
      · rename_i hf; rw [if_neg hf] at this; exact this.mono Le
    · rw [Nat.zero_add]; exact h1 j hj
  · have := h.gens id blk hb
    by_cases hd : id.d = d
    · rw [hd] at this ⊢; simp; omega
    · rw [upd_other _ _ _ _ hd]; exact this

theorem run_newVar {P : Program} (w : World) (t : TypeId) (v : Value) : (newVar t v).run P w = .ok ⟨w.heap.size, 0, none⟩ (w.alloc (.cells v.cells t)) := by
  simp [newVar, newRow, newObj, Sem.run]

def allocE (P : Program) (t : TypeId) (d g : Nat) : Option Eff :=
  (zeroOf P t).bind fun z => if z.all leafB = true then some ⟨.pt ⟨d, g, 0⟩ 0 0, [], [(⟨d, g, 0⟩, ⟨0, true, false, z⟩)], true⟩ else none

theorem sim_new {P : Program} {o : Oper} {s : St} {d : Nat} {p : PV} {rs : List Id} {flat : Bool} {L : List PV} (hd : o.dst = some d)
    (h : ∀ (c : Ctx) β (a : Act) (w : World), RelB c β s a w → ∃ v cs e, (execOp a.eval o).run P w = .ok (.value v) (w.alloc (.cells cs e)) ∧ L.length ≤ cs.size ∧
      (∀ j, j < L.length → VR (if flat then (env c β s.store w).bare else env c β s.store w) (L.getD j .any) (cs.getD j undef)) ∧ (∀ j, j < L.length → (cs.getD j undef).oneCell' = true) ∧
      VR (env c (updI β ⟨d, s.gens d, 0⟩ (some (w.heap.size, 0))) (updI s.store ⟨d, s.gens d, 0⟩ (some ⟨0, true, flat, L⟩)) (w.alloc (.cells cs e))) p v) :
    Sim P o s ⟨p, rs, [(⟨d, s.gens d, 0⟩, ⟨0, true, flat, L⟩)], true⟩ := by
  intro c a w K Q hr hn hK
  obtain ⟨β, hr⟩ := hr
  obtain ⟨v, cs, e, h1, h2, h3, h4, h5⟩ := h c β a w hr
  unfold Oper.wp
  rw [h1]
  simp only [Oper.upon]
  have hnew := hr.new d flat L cs e h2 h3 h4
  refine hK _ _ ⟨_, (hnew.put o.dst p v hn fun _ _ => h5).congr_store ?_ ?_ ?_⟩
  · simp [St.eff, St.put, hd]
  · simp [St.eff, St.put, hd, wrs]
  · simp [St.eff, St.put, hd]

theorem opEff_alloc {P : Program} {o : Oper} {s : St} {t : TypeId} {d : Nat} {e : Eff} (ho : o.op = .alloc t) (hd : o.dst = some d) (h : allocE P t d (s.gens d) = some e) : OpEff P o s e := by
  unfold allocE at h
  cases hz : zeroOf P t with
  | none => rw [hz] at h; cases h
  | some z =>
    rw [hz] at h
    simp only [Option.bind_some] at h
    split at h
    · rename_i hl
      injection h with h; subst h
      refine ⟨fun s' h1 h2 h3 => ?_⟩
      rw [← h3 d hd]
      refine sim_new hd fun c β a w hr => ?_
      obtain ⟨v0, hr0, hc0⟩ := zeroOf_spec (E := env c β s'.store w) hz hl w
      refine ⟨.pointer (some ⟨w.heap.size, 0, none⟩), v0.cells, t, ?_, by rw [hc0.1]; exact Nat.le_refl _, fun j hj => by simpa using hc0.2.1 j hj, hc0.2.2, ?_⟩
      · simp only [execOp, ho, Instr.alloc, Sem.run_bind, hr0, Result.andThen_ok, run_newVar, Sem.run_pure]
      · exact .pt _ _ _ _ ⟨0, true, false, z⟩ (by simp [env]) (Nat.le_refl _) (fun _ => ⟨w.heap.size, 0, by simp [env], rfl⟩) rfl
    · cases h

def boxE (x : PV) (d g : Nat) : Option Eff :=
  if solid x = true then some ⟨.pt ⟨d, g, 0⟩ 0 0, [], [(⟨d, g, 0⟩, ⟨0, true, false, cellsOf x⟩)], true⟩ else none

theorem opEff_box {P : Program} {o : Oper} {s : St} {t : TypeId} {x : Operand} {d : Nat} {e : Eff} (ho : o.op = .box t x) (hd : o.dst = some d) (h : boxE (pv s.frame x) d (s.gens d) = some e) : OpEff P o s e := by
  unfold boxE at h
  split at h
  · rename_i hs
    injection h with h; subst h
    refine ⟨fun s' h1 h2 h3 => ?_⟩
    rw [← h3 d hd, ← h1 x (by simp [ho, Op.operands])]
    rw [← h1 x (by simp [ho, Op.operands])] at hs
    refine sim_new hd fun c β a w hr => ?_
    have hv := VR_pv hr.frame x
    obtain ⟨k1, k2, k3⟩ := hv.cells hs
    refine ⟨.pointer (some ⟨w.heap.size, 0, none⟩), (a.eval x).cells, t, ?_, by rw [k1]; exact Nat.le_refl _, fun j hj => by simpa using k2 j hj, k3, ?_⟩
    · simp only [execOp, ho, Instr.box, Sem.run_bind, run_newVar, Result.andThen_ok, Sem.run_pure]
    · exact .pt _ _ _ _ ⟨0, true, false, cellsOf (pv s'.frame x)⟩ (by simp [env]) (Nat.le_refl _) (fun _ => ⟨w.heap.size, 0, by simp [env], rfl⟩) rfl
  · cases h

end Go.Proofs.YtabofinagjdljaaE
