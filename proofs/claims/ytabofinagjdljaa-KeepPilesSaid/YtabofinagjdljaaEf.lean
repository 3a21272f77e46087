/- Operations that read or write memory. -/
import Derived.Test.YtabofinagjdljaaEe
import Derived.Laws.OwnMore
set_option linter.unusedVariables false
set_option linter.unusedSimpArgs false
namespace Go.Proofs.YtabofinagjdljaaE
open Go.RowKit

section
variable {P : Program} {E : Env}

def loadL (b : Bool) (sz : Nat) (l : List PV) : Option PV :=
  if b = true then (if sz ≤ l.length then some (.agg (l.take sz)) else none) else l[0]?

def evalL (P : Program) (op : Op) (ρ : Operand → PV) (σ : Id → Option Blk) : Option (PV × List Id) :=
  match op with
  | .load t x =>
    match aggOf P t, szOf P t, ρ x with
    | some b, some sz, .rp l => (loadL b sz l).map fun p => (p, [])
    | some b, some sz, .pt id ver off => (live σ id ver).bind fun blk => (loadL b sz (blk.cells.drop off)).map fun p => (p, [id])
    | _, _, _ => none
  | _ => none

/-- Cells that lie in memory from an address on. -/
def At (E : Env) (l : List PV) (a : Addr) : Prop :=
  ∃ us : Nat → Value, (∀ j, j < l.length → E.w.cell? (a.add j) = some (us j)) ∧ (∀ j, j < l.length → VR E (l.getD j .any) (us j)) ∧ (∀ j, j < l.length → (us j).oneCell' = true)

theorem run_loadL {t : TypeId} {b : Bool} {sz : Nat} {l : List PV} {p : PV} {a : Addr} (h : loadL b sz l = some p) (ha : aggOf P t = some b) (hz : szOf P t = some sz) (hA : At E l a) :
    ∃ v, (loadVar t a).run P E.w = .ok v E.w ∧ VR E p v := by
  obtain ⟨us, h1, h2, h3⟩ := hA
  unfold loadL at h
  split at h
  · rename_i hb
    subst hb
    split at h
    · rename_i hl
      injection h with h; subst h
      refine ⟨.agg ((List.range sz).map us).toArray, ?_, .agg _ _ (by simp; omega) (fun j hj => ?_) fun j hj => ?_⟩
      · simp only [loadVar, Sem.run_bind, run_isAgg ha, Result.andThen_ok, if_true, run_sizeOf hz, run_loadCells E.w a sz us (fun j hj => h1 j (by omega)), Sem.run_pure]
      · simp at hj
        rw [getD_take _ _ _ (by omega)]
        have := h2 j (by omega)
        simpa [Array.getD_eq_getD_getElem?, show j < sz by omega] using this
      · simp at hj
        have := h3 j (by omega)
        simpa [Array.getD_eq_getD_getElem?, show j < sz by omega] using this
    · cases h
  · rename_i hb
    have hb' : b = false := by simpa using hb
    subst hb'
    obtain ⟨hl, _⟩ := List.getElem?_eq_some_iff.1 h
    have c0 := h1 0 hl
    have v0 := h2 0 hl
    rw [getD_of_getElem? h] at v0
    refine ⟨us 0, ?_, v0⟩
    have c0' : E.w.cell? a = some (us 0) := by simpa [Addr.add] using c0
    simp only [loadVar, Sem.run_bind, run_isAgg ha, Result.andThen_ok, Bool.false_eq_true, if_false, run_load, c0']

theorem At.rp {l : List PV} {v : Value} (h : VR E (.rp l) v) : ∃ a, v = .pointer (some a) ∧ At E l a := by
  obtain ⟨a, us, rfl, _, h1, h2, h3⟩ := h.rp_inv
  exact ⟨a, rfl, us, h1, fun j hj => (h2 j hj).of_bare, h3⟩

/-- What a block's cells are, in memory. -/
structure BlkAt (E : Env) (blk : Blk) (g o : Nat) (c : Array Value) (e : TypeId) (fz : Nat × Nat) : Prop where
  heap : E.w.heap[g]? = some (.cells c e fz)
  own : blk.own = true → fz = (0, 0)
  size : o + blk.cells.length ≤ c.size
  cell : ∀ j, j < blk.cells.length → VR (if blk.flat then E.bare else E) (blk.cells.getD j .any) (c.getD (o + j) undef)
  one : ∀ j, j < blk.cells.length → (c.getD (o + j) undef).oneCell' = true

theorem BlkAt.cell' {blk : Blk} {g o : Nat} {c : Array Value} {e : TypeId} {fz : Nat × Nat} (h : BlkAt E blk g o c e fz) (j : Nat) (hj : j < blk.cells.length) : VR E (blk.cells.getD j .any) (c.getD (o + j) undef) := by
  have := h.cell j hj
  split at this
  · exact this.of_bare
  · exact this

theorem BlkRel.at_ {B : Nat} {I : Id → Nat → Prop} {id : Id} {blk : Blk} {g o : Nat} (h : BlkRel E B I id blk) (hb : E.β id = some (g, o)) :
    (B ≤ g ∨ (id.d = 0 ∧ id.g = 0 ∧ I id g)) ∧ ∃ c e fz, BlkAt E blk g o c e fz := by
  unfold BlkRel at h
  rw [hb] at h
  obtain ⟨h0, c, e, fz, h1, h2, h3, h4⟩ := h
  exact ⟨h0, c, e, fz, h1, h2, h3, fun j hj => (h4 j hj).1, fun j hj => (h4 j hj).2⟩

theorem BlkAt.rel {B : Nat} {I : Id → Nat → Prop} {id : Id} {blk : Blk} {g o : Nat} {c : Array Value} {e : TypeId} {fz : Nat × Nat} (h : BlkAt E blk g o c e fz) (hb : E.β id = some (g, o)) (h0 : B ≤ g ∨ (id.d = 0 ∧ id.g = 0 ∧ I id g)) : BlkRel E B I id blk := by
  unfold BlkRel
  rw [hb]
  exact ⟨h0, c, e, fz, h.heap, h.own, h.size, fun j hj => ⟨h.cell j hj, h.one j hj⟩⟩

theorem BlkAt.At {blk : Blk} {g o : Nat} {c : Array Value} {e : TypeId} {fz : Nat × Nat} (h : BlkAt E blk g o c e fz) (off : Nat) : At E (blk.cells.drop off) ⟨g, o + off, none⟩ := by
  refine ⟨fun j => c.getD (o + (off + j)) undef, fun j hj => ?_, fun j hj => ?_, fun j hj => ?_⟩
  · simp at hj
    have hs := h.size
    rw [add_lit, cell_of_row E.w g _ c e fz h.heap, agetD c _ (by omega), Nat.add_assoc]
  · simp at hj
    rw [getD_drop]
    exact h.cell' (off + j) (by omega)
  · simp at hj
    exact h.one (off + j) (by omega)

theorem run_evalL {o : Oper} {f : Nat → PV} {a : Act} {p : PV} {rs : List Id} (h : evalL P o.op (pv f) E.σ = some (p, rs)) (hf : ∀ t, VR E (f t) (a.tmps.getD t undef))
    {B : Nat} {I : Id → Nat → Prop} (hblk : ∀ id blk, E.σ id = some blk → BlkRel E B I id blk) : ∃ v, (execOp a.eval o).run P E.w = .ok (.value v) E.w ∧ VR E p v := by
  unfold evalL at h
  split at h
  · rename_i t x ho
    have hx := VR_pv hf x
    split at h
    · rename_i b sz l ha hz hp
      rw [hp] at hx
      cases hl : loadL b sz l with
      | none => rw [hl] at h; cases h
      | some q =>
        rw [hl] at h; injection h with h; injection h with h1 h2; subst h1
        obtain ⟨ad, hv, hA⟩ := At.rp hx
        obtain ⟨v, hr, hq⟩ := run_loadL hl ha hz hA
        exact ⟨v, by simp only [execOp, ho, hv, Instr.loadAt, Instr.sureAddr, Sem.run_bind, Sem.run_pure, Result.andThen_ok, hr], hq⟩
    · rename_i b sz id ver off ha hz hp
      rw [hp] at hx
      cases hlv : live E.σ id ver with
      | none => rw [hlv] at h; cases h
      | some blk =>
        rw [hlv] at h
        simp only [Option.bind_some] at h
        cases hl : loadL b sz (blk.cells.drop off) with
        | none => rw [hl] at h; cases h
        | some q =>
          rw [hl] at h; injection h with h; injection h with h1 h2; subst h1
          obtain ⟨hb, hv⟩ := live_spec hlv
          obtain ⟨g, o', hβ, hv'⟩ := hx.pt_inv hb hv
          obtain ⟨_, c, e, fz, hat⟩ := (hblk id blk hb).at_ hβ
          obtain ⟨v, hr, hq⟩ := run_loadL hl ha hz (hat.At off)
          exact ⟨v, by simp only [execOp, ho, hv', Instr.loadAt, Instr.sureAddr, Sem.run_bind, Sem.run_pure, Result.andThen_ok, hr], hq⟩
    · cases h
  · cases h

theorem evalL_congr {op : Op} {ρ ρ' : Operand → PV} {σ σ' : Id → Option Blk} {p : PV} {rs : List Id} (h : evalL P op ρ σ = some (p, rs)) (hρ : ∀ x ∈ op.operands, ρ' x = ρ x) (hs : ∀ id ∈ rs, σ' id = σ id) :
    evalL P op ρ' σ' = some (p, rs) := by
  unfold evalL at h
  split at h <;> (try simp only [Op.operands] at hρ) <;> simp only [evalL]
  · rename_i t x
    simp only [hρ x (by simp)]
    split at h
    · exact h
    · rename_i b sz id ver off ha hz hp
      cases hlv : live σ id ver with
      | none => rw [hlv] at h; cases h
      | some blk =>
        rw [hlv] at h
        simp only [Option.bind_some] at h
        cases hl : loadL b sz (blk.cells.drop off) with
        | none => rw [hl] at h; cases h
        | some q =>
          rw [hl] at h; injection h with h; injection h with h1 h2
          simp only [live_congr (hs id (by simp [← h2])), hlv, Option.bind_some, hl, Option.map_some, h1, h2]
    · cases h
  · cases h
end

/-! ### what an operation does to the abstract state -/
structure Eff where
  val : PV
  reads : List Id
  wr : List (Id × Blk)
  bump : Bool

def wrs (σ : Id → Option Blk) (l : List (Id × Blk)) : Id → Option Blk := l.foldr (fun p σ => updI σ p.1 (some p.2)) σ

def St.eff (s : St) (dst : Option Nat) (e : Eff) : St :=
  { frame := (s.put dst e.val).frame
    store := wrs s.store e.wr
    gens := if e.bump then upd s.gens (dst.getD 0) (s.gens (dst.getD 0) + 1) else s.gens }

/-- From every world that stands to the state, the operation leads to one that stands to the state with its effect. -/
def Sim (P : Program) (o : Oper) (s : St) (e : Eff) : Prop :=
  ∀ (c : Ctx) (a : Act) (w : World) (K : Act → World → Prop) (Q : Exit → Act → World → Prop), Rel c s a w → (∀ d, o.dst = some d → d < c.nt) → (∀ a' w', Rel c (s.eff o.dst e) a' w' → K a' w') → o.wp P a w K Q

/-- The effect hangs on nothing but what the operation looks at. -/
structure OpEff (P : Program) (o : Oper) (s : St) (e : Eff) : Prop where
  sim : ∀ s' : St, (∀ x ∈ o.op.operands, pv s'.frame x = pv s.frame x) → (∀ id ∈ e.reads, s'.store id = s.store id) → (∀ d, o.dst = some d → s'.gens d = s.gens d) → Sim P o s' e

theorem OpEff.here {P : Program} {o : Oper} {s : St} {e : Eff} (h : OpEff P o s e) : Sim P o s e := h.sim s (fun _ _ => rfl) (fun _ _ => rfl) (fun _ _ => rfl)

theorem BlkRel.room {E : Env} {B : Nat} {I : Id → Nat → Prop} {id : Id} {blk : Blk} {g o : Nat} (h : BlkRel E B I id blk) (hb : E.β id = some (g, o)) : Room E.w g (o + blk.cells.length) := by
  obtain ⟨_, c, e, fz, hat⟩ := h.at_ hb
  exact ⟨c, e, fz, hat.heap, hat.size⟩

theorem St.eff_val (s : St) (d : Option Nat) (p : PV) (rs : List Id) : s.eff d ⟨p, rs, [], false⟩ = s.put d p := by
  cases d <;> simp [St.eff, St.put, wrs]

theorem sim_value {P : Program} {o : Oper} {s : St} {p : PV} {rs : List Id}
    (h : ∀ (c : Ctx) β (a : Act) (w : World), RelB c β s a w → ∃ v, (execOp a.eval o).run P w = .ok (.value v) w ∧ VR (env c β s.store w) p v) : Sim P o s ⟨p, rs, [], false⟩ := by
  intro c a w K Q hr hd hK
  obtain ⟨β, hr⟩ := hr
  obtain ⟨v, h1, h2⟩ := h c β a w hr
  unfold Oper.wp
  rw [h1]
  simp only [Oper.upon]
  refine hK _ _ ⟨β, ?_⟩
  rw [St.eff_val]
  exact hr.put o.dst p v hd fun _ _ => h2

theorem opEff_value {P : Program} {o : Oper} {s : St} {p : PV} {rs : List Id} (h : evalV P o.op (pv s.frame) s.store = some (p, rs)) : OpEff P o s ⟨p, rs, [], false⟩ :=
  ⟨fun s' h1 h2 _ => sim_value fun c β a w hr =>
    run_evalV (E := env c β s'.store w) w (evalV_congr h h1 h2) hr.frame fun id blk g o' hs hb => (hr.blocks id blk hs).room hb⟩

theorem opEff_load {P : Program} {o : Oper} {s : St} {p : PV} {rs : List Id} (h : evalL P o.op (pv s.frame) s.store = some (p, rs)) : OpEff P o s ⟨p, rs, [], false⟩ :=
  ⟨fun s' h1 h2 _ => sim_value fun c β a w hr =>
    run_evalL (E := env c β s'.store w) (evalL_congr h h1 h2) hr.frame hr.blocks⟩

end Go.Proofs.YtabofinagjdljaaE
