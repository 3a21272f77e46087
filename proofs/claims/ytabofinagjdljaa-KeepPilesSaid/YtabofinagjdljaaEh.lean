/- Stores, slices that are made, appends, copies. -/
import Derived.Test.YtabofinagjdljaaEg
import Derived.Deep.AppendSrc
set_option linter.unusedVariables false
set_option linter.unusedSimpArgs false
namespace Go.Proofs.YtabofinagjdljaaE
open Go.RowKit

theorem splice_getD {α : Type} (l m : List α) (off j : Nat) (d : α) (h : off + m.length ≤ l.length) :
    (l.take off ++ m ++ l.drop (off + m.length)).getD j d = if off ≤ j ∧ j < off + m.length then m.getD (j - off) d else l.getD j d := by
  simp only [List.getD, List.getElem?_append, List.length_take, List.length_append, List.getElem?_drop, List.getElem?_take]
  by_cases h1 : j < off
  · rw [if_pos (by omega), if_pos (by omega), if_pos h1, if_neg (by omega)]
  · by_cases h2 : j < off + m.length
    · rw [if_pos (by omega), if_neg (by omega), if_pos (by omega)]
      congr 2
      omega
    · rw [if_neg (by omega), if_neg (by omega)]
      congr 2
      omega

theorem splice_length {α : Type} (l m : List α) (off : Nat) (h : off + m.length ≤ l.length) : (l.take off ++ m ++ l.drop (off + m.length)).length = l.length := by
  simp; omega

theorem toArray_getD (l : List Value) (j : Nat) : l.toArray.getD j undef = l.getD j undef := by simp [List.getD, Array.getD_eq_getD_getElem?]
theorem toList_getD (l : Array Value) (j : Nat) : l.toList.getD j undef = l.getD j undef := by simp [List.getD, Array.getD_eq_getD_getElem?]

/-- A block of the call's own is rewritten where it lies. -/
theorem RelB.rewrite {c : Ctx} {β : Id → Option (Nat × Nat)} {s : St} {a : Act} {w : World} (h : RelB c β s a w) {x : Id} {blk : Blk} {g o : Nat} (hb : s.store x = some blk) (ho : blk.own = true) (hβ : β x = some (g, o))
    {cur : Array Value} {e : TypeId} (hg : w.heap[g]? = some (.cells cur e (0, 0))) (cur' : Array Value) (hsz : cur'.size = cur.size) (blk' : Blk) (o' : Nat) (hver : blk.ver ≤ blk'.ver ∧ (blk'.ver = blk.ver → o' = o))
    (hfit : o' + blk'.cells.length ≤ cur.size)
    (hv : ∀ j, j < blk'.cells.length → VR (if blk'.flat then (env c β s.store w).bare else env c β s.store w) (blk'.cells.getD j .any) (cur'.getD (o' + j) undef)) (h1 : ∀ j, j < blk'.cells.length → (cur'.getD (o' + j) undef).oneCell' = true) :
    RelB c (updI β x (some (g, o'))) { s with store := updI s.store x (some blk') } a (w.setRow g cur') := by
  have hrel := h.blocks x blk hb
  obtain ⟨h0, _⟩ := hrel.at_ hβ
  have hI : c.w0.heap.size ≤ g ∨ c.IS g := by
    rcases h0 with h0 | ⟨_, _, h0⟩
    · exact .inl h0
    · exact .inr ⟨_, h0⟩
  refine h.write x blk' g o' s.gens (Keeps.setRow _ _ w g cur' cur e (0, 0) hg hsz hI) (fun k hk _ => setRow_other w g k cur' hk) (.inr ⟨blk, o, hb, ho, hβ⟩)
    (fun b hb' => ?_) (fun Le => ?_) h.gens (h.gens x blk hb)
  · rw [hb] at hb'; injection hb' with hb'; subst hb'
    exact ⟨hver.1, fun e => by rw [hβ, hver.2 e]⟩
  · refine BlkAt.rel (g := g) (o := o') (c := cur') (e := e) (fz := (0, 0)) ⟨setRow_heap w g cur cur' e (0, 0) hg, fun _ => rfl, by omega, fun j hj => ?_, h1⟩ (by simp [env]) h0
    have := hv j hj
    split
    · rename_i hf; rw [if_pos hf] at this; exact this.mono Le.bare
    · rename_i hf; rw [if_neg hf] at this; exact this.mono Le

/-! ### store -/
def storeE (P : Program) (t : TypeId) (x v : PV) (σ : Id → Option Blk) : Option Eff :=
  match x with
  | .pt id ver off =>
    match live σ id ver, szOf P t with
    | some blk, some sz =>
      if blk.own = true ∧ solid v = true ∧ (cellsOf v).length = sz ∧ off + sz ≤ blk.cells.length then
        if blk.flat = true then
          match flatCs σ (cellsOf v) with
          | some (qs, ids) => if id ∈ ids then none else some ⟨.any, id :: ids, (id, { blk with cells := blk.cells.take off ++ qs ++ blk.cells.drop (off + sz) }) :: frzL σ ids, false⟩
          | none => none
        else some ⟨.any, [id], [(id, { blk with cells := blk.cells.take off ++ cellsOf v ++ blk.cells.drop (off + sz) })], false⟩
      else none
    | _, _ => none
  | _ => none

theorem frzL_congr {σ σ' : Id → Option Blk} : ∀ (ids : List Id), (∀ id ∈ ids, σ' id = σ id) → frzL σ' ids = frzL σ ids
  | [], _ => rfl
  | x :: ids, h => by
    have h1 := h x (by simp)
    have ih := frzL_congr ids (fun id hid => h id (by simp [hid]))
    unfold frzL at *
    simp only [List.filterMap_cons, h1, ih]

theorem flatC_congr {σ σ' : Id → Option Blk} {p q : PV} {ids : List Id} (h : flatC σ p = some (q, ids)) (hs : ∀ id ∈ ids, σ' id = σ id) : flatC σ' p = some (q, ids) := by
  unfold flatC at *
  split at h <;> first | exact h | skip
  split at h
  · rename_i id ver off n sz _ blk hl
    split at h
    · rename_i hc
      injection h with h; injection h with h1 h2
      rw [live_congr (hs id (by simp [← h2])), hl]
      simp only [if_pos hc, h1, h2]
    · cases h
  · cases h

theorem flatCs_congr {σ σ' : Id → Option Blk} : ∀ {ps qs : List PV} {ids : List Id}, flatCs σ ps = some (qs, ids) → (∀ id ∈ ids, σ' id = σ id) → flatCs σ' ps = some (qs, ids)
  | [], qs, ids, h, _ => h
  | p :: ps, qs, ids, h, hs => by
    simp only [flatCs] at *
    split at h
    · rename_i q x l y h1 h2
      injection h with h; injection h with e1 e2; subst e2
      rw [flatC_congr h1 (fun id hid => hs id (by simp [hid])), flatCs_congr h2 (fun id hid => hs id (by simp [hid]))]
      simp [e1]
    · cases h

theorem storeE_congr {P : Program} {t : TypeId} {x v : PV} {σ σ' : Id → Option Blk} {e : Eff} (h : storeE P t x v σ = some e) (hs : ∀ id ∈ e.reads, σ' id = σ id) : storeE P t x v σ' = some e := by
  unfold storeE at *
  split at h
  · rename_i id ver off
    split at h
    · rename_i blk sz hl hz
      split at h
      · rename_i hc
        split at h
        · rename_i hf
          split at h
          · rename_i qs ids hq
            split at h
            · cases h
            · rename_i hid
              injection h with h; subst h
              rw [live_congr (hs id (by simp)), hl]
              simp only [hz, if_pos hc, if_pos hf, flatCs_congr hq (fun i hi => hs i (by simp [hi])), if_neg hid, frzL_congr ids (fun i hi => hs i (by simp [hi]))]
          · cases h
        · rename_i hf
          injection h with h; subst h
          rw [live_congr (hs id (by simp)), hl]
          simp only [hz, if_pos hc, if_neg hf]
      · cases h
    · cases h
  · cases h

theorem run_storeVar {P : Program} (w : World) (g o : Nat) (e t : TypeId) (v : Value) (cur : Array Value) (hg : w.heap[g]? = some (.cells cur e (0, 0))) {sz : Nat} (hz : szOf P t = some sz) (hs : v.cells.size = sz) (hfit : o + sz ≤ cur.size)
    (h1 : ∀ j, j < sz → (v.cells.getD j undef).oneCell' = true) : (storeVar t ⟨g, o, none⟩ v).run P w = .ok () (w.setRow g (cur.toList.take o ++ v.cells.toList ++ cur.toList.drop (o + v.cells.toList.length)).toArray) := by
  have hst := run_storeCells_at P g o e v.cells.toList 0 cur w hg (by simp; omega) (fun u hu => by
    obtain ⟨j, hj, rfl⟩ := List.getElem_of_mem hu
    have := h1 j (by simpa [hs] using hj)
    rw [← toList_getD] at this
    simpa [List.getD, List.getElem?_eq_getElem hj] using this)
  simp only [Nat.add_zero] at hst
  simp only [storeVar, Sem.run_bind, run_sizeOf hz, Result.andThen_ok, hs, ne_eq, not_true_eq_false, if_false, hst]

theorem opEff_store {P : Program} {o : Oper} {s : St} {t : TypeId} {x y : Operand} {e : Eff} (ho : o.op = .store t x y) (hd : o.dst = none) (h : storeE P t (pv s.frame x) (pv s.frame y) s.store = some e) : OpEff P o s e := by
  refine ⟨fun s' h1 h2 _ => ?_⟩
  have h := storeE_congr h h2
  rw [← h1 x (by simp [ho, Op.operands]), ← h1 y (by simp [ho, Op.operands])] at h
  clear h1 h2
  intro c a w K Q hr _ hK
  obtain ⟨β, hr⟩ := hr
  have vx := VR_pv hr.frame x
  have vy := VR_pv hr.frame y
  unfold storeE at h
  split at h
  · rename_i id ver off hpx
    rw [hpx] at vx
    split at h
    · rename_i blk sz hl hz
      obtain ⟨hb, hver⟩ := live_spec hl
      split at h
      · rename_i hc
        obtain ⟨c1, c2, c3, c4⟩ := hc
        obtain ⟨g, o0, hβ, hv⟩ := vx.pt_inv hb hver
        have hβ : β id = some (g, o0) := hβ
        obtain ⟨_, cur, et, fz, hat⟩ := (hr.blocks id blk hb).at_ hβ
        have hfz := hat.own c1
        subst hfz
        have hheap : w.heap[g]? = some (.cells cur et (0, 0)) := hat.heap
        obtain ⟨k1, k2, k3⟩ := vy.cells c2
        have hsize := hat.size
        have hrun : (execOp a.eval o).run P w = .ok .skip (w.setRow g (cur.toList.take (o0 + off) ++ (a.eval y).cells.toList ++ cur.toList.drop (o0 + off + (a.eval y).cells.toList.length)).toArray) := by
          simp only [execOp, ho, hv, Instr.storeAt, Instr.sureAddr, Sem.run_bind, Sem.run_pure, Result.andThen_ok, run_storeVar w g (o0 + off) et t (a.eval y) cur hheap hz (by omega) (by omega) (fun j hj => k3 j (by omega))]
        have hlen : (a.eval y).cells.toList.length = sz := by simp; omega
        have hcur : ∀ j, ((cur.toList.take (o0 + off) ++ (a.eval y).cells.toList ++ cur.toList.drop (o0 + off + (a.eval y).cells.toList.length)).toArray).getD j undef = if o0 + off ≤ j ∧ j < o0 + off + sz then (a.eval y).cells.getD (j - (o0 + off)) undef else cur.getD j undef := by
          intro j
          rw [toArray_getD, splice_getD _ _ _ _ _ (by simp; omega), hlen, toList_getD, toList_getD]
        have hcs : ((cur.toList.take (o0 + off) ++ (a.eval y).cells.toList ++ cur.toList.drop (o0 + off + (a.eval y).cells.toList.length)).toArray).size = cur.size := by
          simp only [List.size_toArray]; rw [splice_length _ _ _ (by simp; omega)]; simp
        split at h
        · rename_i hf
          split at h
          · rename_i qs ids hq
            split at h
            · cases h
            · rename_i hid
              injection h with h; subst h
              obtain ⟨q1, q2⟩ := flatCs_VR hr ids _ _ _ hq (fun _ h => h)
              have hst : wrs s'.store (frzL s'.store ids) id = some blk := by rw [wrs_frzL, if_neg hid]; exact hb
              have hqs : (blk.cells.take off ++ qs ++ blk.cells.drop (off + sz)).length = blk.cells.length := by simp; omega
              have hget : ∀ j, (blk.cells.take off ++ qs ++ blk.cells.drop (off + sz)).getD j .any = if off ≤ j ∧ j < off + sz then qs.getD (j - off) .any else blk.cells.getD j .any := by
                intro j
                have := splice_getD blk.cells qs off j .any (by omega)
                rw [q1, c3] at this
                exact this
              have L : (env c β s'.store w).Le (env c β (wrs s'.store (frzL s'.store ids)) w) := by
                refine ⟨?_, fun _ _ => rfl, fun _ _ h => h, ?_⟩
                · rintro g ⟨h1, h2, h3⟩
                  refine ⟨h1, h2, fun id blk o q1 q2 q3 => ?_⟩
                  have q1 : wrs s'.store (frzL s'.store ids) id = some blk := q1
                  rw [wrs_frzL] at q1
                  split at q1
                  · cases hs : s'.store id with
                    | none => rw [hs] at q1; cases q1
                    | some b => rw [hs] at q1; injection q1 with q1; subst q1; cases q2
                  · exact h3 id blk o q1 q2 q3
                · intro id blk hs
                  simp only [env] at hs ⊢
                  rw [wrs_frzL]
                  split
                  · rw [hs]; exact ⟨_, rfl, Nat.le_refl _, fun _ => by trivial⟩
                  · exact ⟨blk, hs, Nat.le_refl _, fun _ => by trivial⟩
              have hre := (hr.freezes ids).rewrite (x := id) (blk := blk) (g := g) (o := o0) hst c1 hβ hheap _ hcs { blk with cells := blk.cells.take off ++ qs ++ blk.cells.drop (off + sz) } o0 ⟨Nat.le_refl _, fun _ => rfl⟩ (by rw [hqs]; exact hsize)
                (fun j hj => ?_) (fun j hj => ?_)
              · unfold Oper.wp
                rw [hrun]
                simp only [Oper.upon, hd, Act.put]
                refine hK _ _ ⟨_, hre.congr_store ?_ ?_ ?_⟩
                · simp [St.eff, St.put, hd]
                · rfl
                · rfl
              · rw [hqs] at hj
                simp only [hf, if_true]
                rw [hget, hcur]
                by_cases hj2 : off ≤ j ∧ j < off + sz
                · rw [if_pos hj2, if_pos (by omega)]
                  have := (q2 (j - off) (by omega) _ (k2 (j - off) (by omega))).1
                  rw [show o0 + j - (o0 + off) = j - off by omega]
                  exact this
                · rw [if_neg hj2, if_neg (by omega)]
                  have := hat.cell j hj
                  rw [if_pos hf] at this
                  exact this.mono L.bare
              · rw [hqs] at hj
                rw [hcur]
                by_cases hj2 : off ≤ j ∧ j < off + sz
                · rw [if_pos (by omega)]
                  rw [show o0 + j - (o0 + off) = j - off by omega]
                  exact k3 _ (by omega)
                · rw [if_neg (by omega)]; exact hat.one j hj
          · cases h
        · rename_i hf
          injection h with h; subst h
          have hqs : (blk.cells.take off ++ cellsOf (pv s'.frame y) ++ blk.cells.drop (off + sz)).length = blk.cells.length := by simp; omega
          have hget : ∀ j, (blk.cells.take off ++ cellsOf (pv s'.frame y) ++ blk.cells.drop (off + sz)).getD j .any = if off ≤ j ∧ j < off + sz then (cellsOf (pv s'.frame y)).getD (j - off) .any else blk.cells.getD j .any := by
            intro j
            have := splice_getD blk.cells (cellsOf (pv s'.frame y)) off j .any (by omega)
            rw [c3] at this
            exact this
          have hre := hr.rewrite (x := id) (blk := blk) (g := g) (o := o0) hb c1 hβ hheap _ hcs { blk with cells := blk.cells.take off ++ cellsOf (pv s'.frame y) ++ blk.cells.drop (off + sz) } o0 ⟨Nat.le_refl _, fun _ => rfl⟩ (by rw [hqs]; exact hsize)
            (fun j hj => ?_) (fun j hj => ?_)
          · unfold Oper.wp
            rw [hrun]
            simp only [Oper.upon, hd, Act.put]
            refine hK _ _ ⟨_, hre.congr_store ?_ ?_ ?_⟩
            · simp [St.eff, St.put, hd]
            · rfl
            · rfl
          · rw [hqs] at hj
            have hf' : blk.flat = false := by simpa using hf
            simp only [hf', Bool.false_eq_true, if_false]
            rw [hget, hcur]
            by_cases hj2 : off ≤ j ∧ j < off + sz
            · rw [if_pos hj2, if_pos (by omega), show o0 + j - (o0 + off) = j - off by omega]
              exact k2 (j - off) (by omega)
            · rw [if_neg hj2, if_neg (by omega)]
              exact hat.cell' j hj
          · rw [hqs] at hj
            rw [hcur]
            by_cases hj2 : off ≤ j ∧ j < off + sz
            · rw [if_pos (by omega), show o0 + j - (o0 + off) = j - off by omega]
              exact k3 _ (by omega)
            · rw [if_neg (by omega)]; exact hat.one j hj
      · cases h
    · cases h
  · cases h

end Go.Proofs.YtabofinagjdljaaE
