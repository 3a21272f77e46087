/- What is handed over to a function, and what comes back. -/
import Derived.Test.YtabofinagjdljaaEj
set_option linter.unusedVariables false
set_option linter.unusedSimpArgs false
namespace Go.Proofs.YtabofinagjdljaaE
open Go.RowKit

def idx : List Id → Id → Nat → Option Nat
  | [], _, _ => none
  | x :: r, id, k => if x = id then some k else idx r id (k + 1)

theorem idx_spec : ∀ (l : List Id) (id : Id) (k j : Nat), idx l id k = some j → k ≤ j ∧ l[j - k]? = some id
  | [], _, _, _, h => by cases h
  | x :: r, id, k, j, h => by
    simp only [idx] at h
    split at h
    · rename_i e
      injection h with h; subst h; subst e
      exact ⟨Nat.le_refl _, by simp⟩
    · obtain ⟨h1, h2⟩ := idx_spec r id (k + 1) j h
      refine ⟨by omega, ?_⟩
      rw [show j - k = (j - (k + 1)) + 1 by omega]
      simpa using h2

theorem idx_none : ∀ (l : List Id) (id : Id) (k : Nat), idx l id k = none → id ∉ l
  | [], _, _, _ => by simp
  | x :: r, id, k, h => by
    simp only [idx] at h
    split at h
    · cases h
    · rename_i e
      have := idx_none r id (k + 1) h
      simp [Ne.symm e, this]

/-- A value told elsewhere: the blocks of the list 'ret' go along, all else is a tree. The second list: which blocks the trees lie in. -/
def expC (σ : Id → Option Blk) (ret : List Id) : PV → Option (PV × List Id)
  | .any => some (.any, [])
  | .nilS => some (.rd [] 0, [])
  | .nilP => some (.nilP, [])
  | .nilI => some (.nilI, [])
  | .nilF => some (.nilF, [])
  | .int k n => some (.int k n, [])
  | .bool b => some (.bool b, [])
  | .str s => some (.str s, [])
  | .rd l n => some (.rd l n, [])
  | .rp l => some (.rp l, [])
  | .sl id ver off n sz =>
    match live σ id ver with
    | some blk =>
      match idx ret id 0 with
      | some j => some (.sl ⟨0, 0, j⟩ ver off n sz, [])
      | none => if blk.flat = true ∧ off + n * sz ≤ blk.cells.length ∧ (id.d ≠ 0 ∨ id.g ≠ 0) then some (.rd ((blk.cells.drop off).take (n * sz)) n, [id]) else none
    | none => none
  | .pt id ver off =>
    match live σ id ver with
    | some blk =>
      match idx ret id 0 with
      | some j => some (.pt ⟨0, 0, j⟩ ver off, [])
      | none => if blk.flat = false ∧ (id.d ≠ 0 ∨ id.g ≠ 0) then (flatCs σ blk.cells).map fun (qs, ids) => (.rp (qs.drop off), id :: ids) else none
    | none => none
  | .fn f [] [] => some (.fn f [] [], [])
  | _ => none

def expL (g : PV → Option (PV × List Id)) : List PV → Option (List PV × List Id)
  | [] => some ([], [])
  | p :: r => match g p, expL g r with
    | some (q, x), some (l, y) => some (q :: l, x ++ y)
    | _, _ => none

def expA (σ : Id → Option Blk) (ret : List Id) : PV → Option (PV × List Id)
  | .agg l => (expL (expC σ ret) l).map fun (l, x) => (.agg l, x)
  | p => expC σ ret p

def expP (σ : Id → Option Blk) (ret : List Id) : PV → Option (PV × List Id)
  | .tup l => (expL (expA σ ret) l).map fun (l, x) => (.tup l, x)
  | p => expA σ ret p

structure ExpEnv (E E' : Env) (ret tl : List Id) : Prop where
  w : E'.w = E.w
  D : ∀ g, E.D g → E'.D g
  tl : ∀ id ∈ tl, ∀ blk g o, (id.d ≠ 0 ∨ id.g ≠ 0) → E.σ id = some blk → E.β id = some (g, o) → E'.D g
  st : ∀ j id, ret[j]? = some id → ∀ blk, E.σ id = some blk → ∃ blk', E'.σ ⟨0, 0, j⟩ = some blk' ∧ blk'.ver = blk.ver ∧ E'.β ⟨0, 0, j⟩ = E.β id

theorem ExpEnv.bare {E E' : Env} {ret tl : List Id} (X : ExpEnv E E' ret tl) : E.bare.Le E'.bare :=
  ⟨X.D, fun g _ => by simp [Env.bare, X.w], fun g N h => by simpa [Env.bare, X.w] using h, fun id blk h => by simp [Env.bare] at h⟩

theorem VR.rd_bare {E : Env} {l : List PV} {n : Nat} {v : Value} (h : VR E (.rd l n) v) : VR E.bare (.rd l n) v := by
  cases h with
  | rd0 n A c h1 => exact .rd0 _ _ _ h1
  | rd l n a c us h1 h2 h3 h4 h5 => exact .rd _ _ _ _ us h1 h2 h3 h4 h5
theorem VR.rp_bare {E : Env} {l : List PV} {v : Value} (h : VR E (.rp l) v) : VR E.bare (.rp l) v := by
  cases h with
  | rp l a us h2 h3 h4 h5 => exact .rp _ _ us h2 h3 h4 h5

section
variable {E E' : Env} {ret tl : List Id} {B : Nat} {I : Id → Nat → Prop}

theorem sl_rd (X : ExpEnv E E' ret tl) (hblk : ∀ id blk, E.σ id = some blk → BlkRel E B I id blk) {id : Id} {ver off n sz : Nat} {blk : Blk} {v : Value} (hb : E.σ id = some blk) (hf : blk.flat = true) (hv : blk.ver = ver)
    (hl : off + n * sz ≤ blk.cells.length) (hi : id.d ≠ 0 ∨ id.g ≠ 0) (hid : id ∈ tl) (hx : VR E (.sl id ver off n sz) v) : VR E'.bare (.rd ((blk.cells.drop off).take (n * sz)) n) v := by
  have hs := hx.sl_inv hb hv
  have hr := hblk id blk hb
  unfold SlAt at hs
  split at hs
  · obtain ⟨rfl, rfl⟩ := hs
    rw [Nat.zero_mul, List.take_zero]
    exact .rd0 _ _ _ (Nat.le_refl _)
  · rename_i g o hβ
    obtain ⟨cap, rfl, h1, h2, h3⟩ := hs
    obtain ⟨h0, cc, e, fz, hat⟩ := hr.at_ hβ
    have hsz := hat.size
    have hlt : ∀ j, j < ((blk.cells.drop off).take (n * sz)).length → off + j < blk.cells.length ∧ j < n * sz := by
      intro j hj; simp at hj; omega
    refine .rd _ _ _ _ (fun j => cc.getD (o + (off + j)) undef) h1 (X.tl id hid blk g o hi hb hβ) (fun j hj => ?_) (fun j hj => ?_) fun j hj => ?_
    · obtain ⟨hj1, hj2⟩ := hlt j hj
      rw [add_lit]
      have := cell_of_row E.w g (o + off + j) cc e fz hat.heap
      have hin : o + off + j < cc.size := by omega
      rw [agetD cc _ hin] at this
      rw [← Nat.add_assoc]
      simpa [Env.bare, X.w] using this
    · obtain ⟨hj1, hj2⟩ := hlt j hj
      rw [getD_take _ _ _ hj2, getD_drop]
      have := hat.cell (off + j) hj1
      rw [if_pos hf] at this
      exact this.mono X.bare
    · exact hat.one (off + j) (hlt j hj).1

theorem flatC_exp (X : ExpEnv E E' ret tl) (hblk : ∀ id blk, E.σ id = some blk → BlkRel E B I id blk) {p q : PV} {x : List Id} (hc : flatC E.σ p = some (q, x)) (hsub : ∀ id ∈ x, id ∈ tl) {v : Value} (hv : VR E p v) : VR E'.bare q v := by
  unfold flatC at hc
  split at hc <;> first | (injection hc with hc; injection hc with h1 h2; subst h1) | skip
  · rw [hv.int_inv]; exact .int _ _
  · rw [hv.bool_inv]; exact .bool _
  · rw [hv.str_inv]; exact .str _
  · rw [hv.nilS_inv]; exact .rd0 _ _ _ (Nat.le_refl _)
  · rw [hv.nilP_inv]; exact .nilP
  · rw [hv.nilI_inv]; exact .nilI
  · rw [hv.nilF_inv]; exact .nilF
  · exact hv.rd_bare.mono X.bare
  · exact hv.rp_bare.mono X.bare
  · rename_i id ver off n sz
    split at hc
    · rename_i blk hl
      split at hc
      · rename_i hcond
        injection hc with hc; injection hc with h1 h2; subst h1
        obtain ⟨hb, hver⟩ := live_spec hl
        exact sl_rd X hblk hb hcond.1 hver hcond.2.1 hcond.2.2 (hsub id (by simp [← h2])) hv
      · cases hc
    · cases hc
  · cases hc

theorem flatCs_exp (X : ExpEnv E E' ret tl) (hblk : ∀ id blk, E.σ id = some blk → BlkRel E B I id blk) : ∀ {ps qs : List PV} {x : List Id}, flatCs E.σ ps = some (qs, x) → (∀ id ∈ x, id ∈ tl) →
    qs.length = ps.length ∧ ∀ j, j < ps.length → ∀ v, VR E (ps.getD j .any) v → VR E'.bare (qs.getD j .any) v
  | [], qs, x, hc, _ => by injection hc with hc; injection hc with h1 h2; subst h1; exact ⟨rfl, by simp⟩
  | p :: ps, qs, x, hc, hsub => by
    simp only [flatCs] at hc
    split at hc
    · rename_i q x1 l y h1 h2
      injection hc with hc; injection hc with e1 e2; subst e1; subst e2
      obtain ⟨k1, k2⟩ := flatCs_exp X hblk h2 (fun id hid => hsub id (by simp [hid]))
      refine ⟨by simp [k1], fun j hj v hv => ?_⟩
      cases j with
      | zero => simp at hv ⊢; exact flatC_exp X hblk h1 (fun id hid => hsub id (by simp [hid])) hv
      | succ j => simp at hv ⊢; have := k2 j (by simpa using hj) v (by simpa using hv); simpa using this
    · cases hc

theorem expC_VR (X : ExpEnv E E' ret tl) (hblk : ∀ id blk, E.σ id = some blk → BlkRel E B I id blk) {p q : PV} {x : List Id} (hc : expC E.σ ret p = some (q, x)) (hsub : ∀ id ∈ x, id ∈ tl) {v : Value} (hv : VR E p v) : VR E' q v := by
  unfold expC at hc
  split at hc <;> first | (injection hc with hc; injection hc with h1 h2; subst h1) | skip
  · exact .any _
  · rw [hv.nilS_inv]; exact .rd0 _ _ _ (Nat.le_refl _)
  · rw [hv.nilP_inv]; exact .nilP
  · rw [hv.nilI_inv]; exact .nilI
  · rw [hv.nilF_inv]; exact .nilF
  · rw [hv.int_inv]; exact .int _ _
  · rw [hv.bool_inv]; exact .bool _
  · rw [hv.str_inv]; exact .str _
  · exact (hv.rd_bare.mono X.bare).of_bare
  · exact (hv.rp_bare.mono X.bare).of_bare
  · rename_i id ver off n sz
    split at hc
    · rename_i blk hl
      obtain ⟨hb, hver⟩ := live_spec hl
      split at hc
      · rename_i j hj
        injection hc with hc; injection hc with h1 h2; subst h1
        obtain ⟨_, hj'⟩ := idx_spec ret id 0 j hj
        obtain ⟨blk', b1, b2, b3⟩ := X.st j id (by simpa using hj') blk hb
        refine .sl _ _ _ _ _ _ blk' b1 (by omega) (fun _ => ?_) (hv.leaf_one rfl)
        rw [b3, X.w]
        exact hv.sl_inv hb hver
      · split at hc
        · rename_i hcond
          injection hc with hc; injection hc with h1 h2; subst h1
          exact (sl_rd X hblk hb hcond.1 hver hcond.2.1 hcond.2.2 (hsub id (by simp [← h2])) hv).of_bare
        · cases hc
    · cases hc
  · rename_i id ver off
    split at hc
    · rename_i blk hl
      obtain ⟨hb, hver⟩ := live_spec hl
      split at hc
      · rename_i j hj
        injection hc with hc; injection hc with h1 h2; subst h1
        obtain ⟨_, hj'⟩ := idx_spec ret id 0 j hj
        obtain ⟨blk', b1, b2, b3⟩ := X.st j id (by simpa using hj') blk hb
        refine .pt _ _ _ _ blk' b1 (by omega) (fun _ => ?_) (hv.leaf_one rfl)
        rw [b3]
        exact hv.pt_inv hb hver
      · split at hc
        · rename_i hcond
          cases hf : flatCs E.σ blk.cells with
          | none => rw [hf] at hc; cases hc
          | some y =>
            obtain ⟨qs, ids⟩ := y
            rw [hf] at hc
            injection hc with hc; injection hc with h1 h2; subst h1
            obtain ⟨g, o, hβ, rfl⟩ := hv.pt_inv hb hver
            obtain ⟨_, cc, e, fz, hat⟩ := (hblk id blk hb).at_ hβ
            obtain ⟨k1, k2⟩ := flatCs_exp X hblk hf (fun i hi => hsub i (by rw [← h2]; simp [hi]))
            have hsz := hat.size
            refine .rp _ _ (fun j => cc.getD (o + (off + j)) undef) (X.tl id (hsub id (by rw [← h2]; simp)) blk g o hcond.2 hb hβ) (fun j hj => ?_) (fun j hj => ?_) fun j hj => ?_
            · simp at hj
              rw [add_lit]
              have := cell_of_row E.w g (o + off + j) cc e fz hat.heap
              have hin : o + off + j < cc.size := by omega
              rw [agetD cc _ hin] at this
              rw [← Nat.add_assoc]
              simpa [X.w] using this
            · simp at hj
              rw [getD_drop]
              exact k2 (off + j) (by omega) _ (hat.cell' (off + j) (by omega))
            · simp at hj
              exact hat.one (off + j) (by omega)
        · cases hc
    · cases hc
  · cases hv with | fn f fs cs va vb h1 h2 h3 h4 => exact .fn _ _ _ _ _ h1 h2 (by simp) (by simp)
  · cases hc

theorem expL_VR {g : PV → Option (PV × List Id)} (hg : ∀ p q x v, g p = some (q, x) → (∀ id ∈ x, id ∈ tl) → VR E p v → VR E' q v) : ∀ {ps qs : List PV} {x : List Id}, expL g ps = some (qs, x) → (∀ id ∈ x, id ∈ tl) →
    qs.length = ps.length ∧ ∀ j, j < ps.length → ∀ v, VR E (ps.getD j .any) v → VR E' (qs.getD j .any) v
  | [], qs, x, hc, _ => by injection hc with hc; injection hc with h1 h2; subst h1; exact ⟨rfl, by simp⟩
  | p :: ps, qs, x, hc, hsub => by
    simp only [expL] at hc
    split at hc
    · rename_i q x1 l y h1 h2
      injection hc with hc; injection hc with e1 e2; subst e1; subst e2
      obtain ⟨k1, k2⟩ := expL_VR hg h2 (fun id hid => hsub id (by simp [hid]))
      refine ⟨by simp [k1], fun j hj v hv => ?_⟩
      cases j with
      | zero => simp at hv ⊢; exact hg _ _ _ _ h1 (fun id hid => hsub id (by simp [hid])) hv
      | succ j => simp at hv ⊢; have := k2 j (by simpa using hj) v (by simpa using hv); simpa using this
    · cases hc

theorem expA_VR (X : ExpEnv E E' ret tl) (hblk : ∀ id blk, E.σ id = some blk → BlkRel E B I id blk) {p q : PV} {x : List Id} (hc : expA E.σ ret p = some (q, x)) (hsub : ∀ id ∈ x, id ∈ tl) {v : Value} (hv : VR E p v) : VR E' q v := by
  unfold expA at hc
  split at hc
  · rename_i l
    cases hl : expL (expC E.σ ret) l with
    | none => rw [hl] at hc; cases hc
    | some y =>
      obtain ⟨qs, ids⟩ := y
      rw [hl] at hc; injection hc with hc; injection hc with h1 h2; subst h1; subst h2
      obtain ⟨cs, rfl, a1, a2, a3⟩ := hv.agg_inv
      obtain ⟨k1, k2⟩ := expL_VR (E := E) (E' := E') (tl := tl) (fun p q x v h1 h2 h3 => expC_VR X hblk h1 h2 h3) hl hsub
      exact .agg _ _ (by rw [a1, k1]) (fun j hj => k2 j (by omega) _ (a2 j (by omega))) fun j hj => a3 j (by omega)
  · exact expC_VR X hblk hc hsub hv

theorem expP_VR (X : ExpEnv E E' ret tl) (hblk : ∀ id blk, E.σ id = some blk → BlkRel E B I id blk) {p q : PV} {x : List Id} (hc : expP E.σ ret p = some (q, x)) (hsub : ∀ id ∈ x, id ∈ tl) {v : Value} (hv : VR E p v) : VR E' q v := by
  unfold expP at hc
  split at hc
  · rename_i l
    cases hl : expL (expA E.σ ret) l with
    | none => rw [hl] at hc; cases hc
    | some y =>
      obtain ⟨qs, ids⟩ := y
      rw [hl] at hc; injection hc with hc; injection hc with h1 h2; subst h1; subst h2
      obtain ⟨cs, rfl, a1, a2⟩ := hv.tup_inv
      obtain ⟨k1, k2⟩ := expL_VR (E := E) (E' := E') (tl := tl) (fun p q x v h1 h2 h3 => expA_VR X hblk h1 h2 h3) hl hsub
      exact .tup _ _ (by rw [a1, k1]) fun j hj => k2 j (by omega) _ (a2 j (by omega))
  · exact expA_VR X hblk hc hsub hv
end

/-! ### contracts -/
def stOf (ib : List Blk) : Id → Option Blk := fun id => if id.d = 0 ∧ id.g = 0 then ib[id.j]? else none

def RelS (E : Env) (B : Nat) (I : Id → Nat → Prop) : Prop :=
  (∀ id blk, E.σ id = some blk → BlkRel E B I id blk) ∧
  (∀ id id' blk blk' g o o', E.σ id = some blk → E.σ id' = some blk' → blk.own = true → E.β id = some (g, o) → E.β id' = some (g, o') → id = id')

structure Entry (c : Ctx) (β0 : Id → Option (Nat × Nat)) (ps : List PV) (ib : List Blk) (args : Array Value) : Prop where
  size : args.size = ps.length
  vr : ∀ j, j < ps.length → VR (env c β0 (stOf ib) c.w0) (ps.getD j .any) (args.getD j undef)
  st : RelS (env c β0 (stOf ib) c.w0) c.w0.heap.size c.I
  own : ∀ id g, c.I id g → (stOf ib id).isSome = true

structure Leave (c : Ctx) (β0 : Id → Option (Nat × Nat)) (ib : List Blk) (r : PV) (rb : List Blk) (β' : Id → Option (Nat × Nat)) (v : Value) (w' : World) : Prop where
  keeps : Keeps c.w0.heap.size c.IS c.w0 w'
  vr : VR (env c β' (stOf rb) w') r v
  st : RelS (env c β' (stOf rb) w') c.w0.heap.size c.I
  old : ∀ id blk, stOf ib id = some blk → ∃ blk', stOf rb id = some blk' ∧ blk.ver ≤ blk'.ver ∧ (blk'.ver = blk.ver → β' id = β0 id)

/-- The call, with these arguments and blocks that are handed over to be written, answers r, and leaves these blocks: those that were handed over first, then new ones. -/
def CallOk (P : Program) (f : FuncId) (ps : List PV) (ib : List Blk) (r : PV) (rb : List Blk) : Prop :=
  ∀ (c : Ctx) (β0 : Id → Option (Nat × Nat)) (args : Array Value), Entry c β0 ps ib args →
    Calls P f args c.w0 fun e w' => ∃ v β', e = .returned v ∧ Leave c β0 ib r rb β' v w'

end Go.Proofs.YtabofinagjdljaaE
