/- Appends and copies. -/
import Derived.Test.YtabofinagjdljaaEi
set_option linter.unusedVariables false
set_option linter.unusedSimpArgs false
namespace Go.Proofs.YtabofinagjdljaaE
open Go.RowKit

def bytesP (s : ByteArray) : List PV := s.data.toList.map fun b => .int .u8 b.toNat

def srcV (P : Program) (t : TypeId) (sz : Nat) (x : PV) (σ : Id → Option Blk) : Option (List PV × Nat × List Id) :=
  match P.underlying t, x with
  | some (.slice _), .rd l m => if l.length = m * sz then some (l, m, []) else none
  | some (.slice _), .nilS => some ([], 0, [])
  | some (.slice _), .sl id ver off m sz' =>
    match live σ id ver with
    | some blk => if sz' = sz ∧ blk.flat = true ∧ off + m * sz ≤ blk.cells.length then some ((blk.cells.drop off).take (m * sz), m, [id]) else none
    | none => none
  | some .string, .str s => if sz = 1 then some (bytesP s, s.size, []) else none
  | _, _ => none

theorem srcV_congr {P : Program} {t : TypeId} {sz : Nat} {x : PV} {σ σ' : Id → Option Blk} {l : List PV} {m : Nat} {rs : List Id} (h : srcV P t sz x σ = some (l, m, rs)) (hs : ∀ id ∈ rs, σ' id = σ id) : srcV P t sz x σ' = some (l, m, rs) := by
  unfold srcV at *
  split at h <;> first | exact h | skip
  split at h
  · rename_i e' id ver off n sz' hu _ blk hl
    split at h
    · rename_i hc
      injection h with h; injection h with h1 h2; injection h2 with h2 h3
      rw [live_congr (hs id (by simp [← h3])), hl]
      subst h1; subst h2; subst h3
      exact if_pos hc
    · cases h
  · cases h

/-- What a second argument yields. -/
structure SrcR (P : Program) (E : Env) (tx : TypeId) (sz : Nat) (v : Value) (l : List PV) (m : Nat) (news : List Value) : Prop where
  kind : (∃ e', P.underlying tx = some (.slice e')) ∨ P.underlying tx = some .string
  len : ∀ w' : World, (Builtin.lenOf v).run P w' = .ok m w'
  cells : ∀ k, k ≤ m → ∀ w' : World, w'.heap = E.w.heap → (Builtin.firstCells sz k v).run P w' = .ok (news.take (k * sz)).toArray w'
  llen : l.length = m * sz
  nlen : news.length = m * sz
  vr : ∀ j, j < l.length → VR E.bare (l.getD j .any) (news.getD j undef)
  one : ∀ j, j < l.length → (news.getD j undef).oneCell' = true

theorem SrcR.mem_one {P : Program} {E : Env} {tx : TypeId} {sz : Nat} {v : Value} {l : List PV} {m : Nat} {news : List Value} (h : SrcR P E tx sz v l m news) : ∀ u ∈ news, u.oneCell' = true := by
  intro u hu
  obtain ⟨j, hj, rfl⟩ := List.getElem_of_mem hu
  have := h.one j (by rw [h.llen, ← h.nlen]; exact hj)
  simpa [List.getD, List.getElem?_eq_getElem hj] using this

theorem SrcR.src {P : Program} {E : Env} {tx : TypeId} {sz : Nat} {v : Value} {l : List PV} {m : Nat} {news : List Value} (h : SrcR P E tx sz v l m news) : Src P sz tx v m news E.w := by
  have h1 := h.cells m (Nat.le_refl _) E.w rfl
  have h2 := h.cells m (Nat.le_refl _) E.w.drew rfl
  rw [List.take_of_length_le (by rw [h.nlen]; exact Nat.le_refl _)] at h1 h2
  exact ⟨h.kind, h.len, h1, h2, h.nlen, h.mem_one⟩

theorem firstCells_at {P : Program} {w : World} {sz : Nat} (a : Addr) (m c k : Nat) (us : Nat → Value) (hk : k ≤ m) (h : ∀ j, j < m * sz → w.cell? (a.add j) = some (us j)) (w' : World) (hw : w'.heap = w.heap) :
    (Builtin.firstCells sz k (.slice (some a) m c)).run P w' = .ok (((List.range (m * sz)).map us).take (k * sz)).toArray w' := by
  have hle : k * sz ≤ m * sz := Nat.mul_le_mul_right _ hk
  simp only [Builtin.firstCells]
  rw [run_loadCells w' a (k * sz) us (fun j hj => by rw [← h j (by omega)]; exact cell?_congr (by rw [hw]))]
  congr 2
  apply List.ext_getElem?
  intro j
  by_cases hj : j < k * sz
  · simp [hj, show j < m * sz by omega, List.getElem?_take]
  · simp [hj, List.getElem?_take]

theorem srcV_run {P : Program} {c : Ctx} {β : Id → Option (Nat × Nat)} {s : St} {a : Act} {w : World} (hr : RelB c β s a w) {t : TypeId} {sz : Nat} {x : PV} {l : List PV} {m : Nat} {rs : List Id} (h : srcV P t sz x s.store = some (l, m, rs)) (hsz : sz ≠ 0)
    {v : Value} (hx : VR (env c β s.store w) x v) : ∃ news, SrcR P (env c β s.store w) t sz v l m news := by
  unfold srcV at h
  split at h
  · rename_i e' l' m' hu
    split at h
    · rename_i hl
      injection h with h; injection h with h1 h2; injection h2 with h2 h3; subst h1; subst h2
      obtain ⟨A, cc, rfl, hnc, hc⟩ := hx.rd_inv
      rcases hc with rfl | ⟨ad, us, rfl, hD, c1, c2, c3⟩
      · have hm : m' = 0 := by
          rw [List.length_nil] at hl
          rcases Nat.mul_eq_zero.1 hl.symm with hl | hl
          · exact hl
          · exact absurd hl hsz
        subst hm
        refine ⟨[], .inl ⟨e', hu⟩, fun _ => rfl, fun k hk w' _ => ?_, by simp, by simp, by simp, by simp⟩
        obtain rfl : k = 0 := by omega
        cases A <;> simp [Builtin.firstCells, loadCells, loadCellsFrom]
      · refine ⟨(List.range (m' * sz)).map us, .inl ⟨e', hu⟩, fun _ => rfl, fun k hk w' hw => firstCells_at (w := w) ad m' cc k us hk (fun j hj => c1 j (by omega)) w' hw, hl, by simp, fun j hj => ?_, fun j hj => ?_⟩
        · have := c2 j hj
          simpa [List.getD, show j < m' * sz by omega] using this
        · have := c3 j hj
          simpa [List.getD, show j < m' * sz by omega] using this
    · cases h
  · rename_i e' hu
    injection h with h; injection h with h1 h2; injection h2 with h2 h3; subst h1; subst h2
    rw [hx.nilS_inv]
    exact ⟨[], .inl ⟨e', hu⟩, fun _ => rfl, fun k hk w' _ => by simp [Builtin.firstCells], by simp, by simp, by simp, by simp⟩
  · rename_i e' id ver off m' sz' hu
    split at h
    · rename_i blk hl
      split at h
      · rename_i hc
        obtain ⟨rfl, hf, hfit⟩ := hc
        injection h with h; injection h with h1 h2; injection h2 with h2 h3; subst h1; subst h2
        obtain ⟨hb, hver⟩ := live_spec hl
        have hs := hx.sl_inv hb hver
        unfold SlAt at hs
        split at hs
        · obtain ⟨rfl, rfl⟩ := hs
          refine ⟨[], .inl ⟨e', hu⟩, fun _ => rfl, fun k hk w' _ => by simp [Builtin.firstCells], by simp, by simp, by simp, by simp⟩
        · rename_i g o hβ
          obtain ⟨cap, rfl, k1, k2, k3⟩ := hs
          obtain ⟨_, cc, e, fz, hat⟩ := (hr.blocks id blk hb).at_ hβ
          have hlen : ((blk.cells.drop off).take (m' * sz')).length = m' * sz' := by simp; omega
          have hsize := hat.size
          refine ⟨(List.range (m' * sz')).map fun j => cc.getD (o + (off + j)) undef, .inl ⟨e', hu⟩, fun _ => rfl, fun k hk w' hw => firstCells_at (w := w) _ m' cap k _ hk (fun j hj => ?_) w' hw, hlen, by simp, fun j hj => ?_, fun j hj => ?_⟩
          · have hin : o + off + j < cc.size := by omega
            have := cell_of_row w g (o + off + j) cc e fz hat.heap
            rw [agetD cc _ hin] at this
            rw [add_lit, ← Nat.add_assoc]
            exact this
          · rw [hlen] at hj
            rw [getD_take _ _ _ hj, getD_drop]
            have := hat.cell (off + j) (by omega)
            rw [if_pos hf] at this
            simpa [List.getD, hj] using this
          · rw [hlen] at hj
            have := hat.one (off + j) (by omega)
            simpa [List.getD, hj] using this
      · cases h
    · cases h
  · rename_i st hu
    split at h
    · rename_i hs1
      subst hs1
      injection h with h; injection h with h1 h2; injection h2 with h2 h3; subst h1; subst h2
      rw [hx.str_inv]
      have hlen : st.data.toList.length = st.size := by rw [Array.length_toList]; rfl
      refine ⟨byteCells st, .inr hu, fun _ => rfl, fun k hk w' _ => ?_, by simp [bytesP], by rw [byteCells_length, Nat.mul_one], fun j hj => ?_, fun j hj => ?_⟩
      · simp [Builtin.firstCells, byteCells]
        apply Array.ext'
        simp [ByteArray.extract, ByteArray.copySlice, ← List.map_take]
      · simp [bytesP] at hj
        simp only [List.getD, bytesP, byteCells, List.getElem?_map]
        rw [List.getElem?_eq_getElem (by simpa using hj)]
        exact .int _ _
      · simp [bytesP] at hj
        simp only [List.getD, byteCells, List.getElem?_map]
        rw [List.getElem?_eq_getElem (by simpa using hj)]
        rfl
    · cases h
  · cases h

/-- An own block that lies nowhere: nothing, still. -/
theorem RelB.writeNil {c : Ctx} {β : Id → Option (Nat × Nat)} {s : St} {a : Act} {w : World} (h : RelB c β s a w) (x : Id) (ver : Nat) (gens' : Nat → Nat)
    (hx : ∀ blk, s.store x = some blk → β x = none ∧ blk.ver ≤ ver) (hg : ∀ id blk, s.store id = some blk → id.g < gens' id.d) (hgx : x.g < gens' x.d) :
    RelB c (updI β x none) { s with store := updI s.store x (some ⟨ver, true, true, []⟩), gens := gens' } a w := by
  have L : (env c β s.store w).Le (env c (updI β x none) (updI s.store x (some ⟨ver, true, true, []⟩)) w) := by
    refine ⟨?_, fun _ _ => rfl, fun _ _ h => h, ?_⟩
    · rintro g ⟨h1, h2, h3⟩
      refine ⟨h1, h2, fun id blk o q1 q2 q3 => ?_⟩
      by_cases e : id = x
      · subst e; simp at q3
      · have q1 : updI s.store x (some ⟨ver, true, true, []⟩) id = some blk := q1
        have q3 : updI β x none id = some (g, o) := q3
        rw [updI_other _ _ _ _ e] at q1 q3
        exact h3 id blk o q1 q2 q3
    · intro id blk hs
      by_cases e : id = x
      · subst e
        obtain ⟨k1, k2⟩ := hx blk hs
        exact ⟨⟨ver, true, true, []⟩, by simp [env], k2, fun _ => by simp [env, k1]⟩
      · exact ⟨blk, by simp only [env]; rw [updI_other _ _ _ _ e]; exact hs, Nat.le_refl _, fun _ => by simp only [env]; rw [updI_other _ _ _ _ e]⟩
  refine h.turn _ gens' (Keeps.refl _ _ _) L ?_ ?_ ?_
  · intro id blk hs
    by_cases e : id = x
    · subst e
      simp at hs
      subst hs
      simp [BlkRel, env]
    · rw [updI_other _ _ _ _ e] at hs
      exact (h.blocks id blk hs).mono L (by simp only [env]; rw [updI_other _ _ _ _ e]) (fun _ _ _ => rfl)
  · intro id id' blk blk2 g o o' hs hs' ho hb hb'
    by_cases e : id = x
    · subst e; simp at hb
    · by_cases e' : id' = x
      · subst e'; simp at hb'
      · rw [updI_other _ _ _ _ e] at hs hb
        rw [updI_other _ _ _ _ e'] at hs' hb'
        exact h.inj id id' blk blk2 g o o' hs hs' ho hb hb'
  · intro id blk hs
    by_cases e : id = x
    · subst e; exact hgx
    · rw [updI_other _ _ _ _ e] at hs; exact hg id blk hs

def appendE (P : Program) (t tx : TypeId) (x y : PV) (σ : Id → Option Blk) (d g : Nat) : Option Eff :=
  match P.underlying t with
  | some (.slice e) =>
    match szOf P e, byOf P e, zeroOf P e with
    | some sz, some by_, some z =>
      match srcV P tx sz y σ with
      | some (l, m, rs) =>
        if sz ≠ 0 ∧ z.length = sz then
          match x with
          | .nilS => if m * by_ ≤ 140737488355328 ∧ m ≤ 9223372036854775807 then some ⟨.sl ⟨d, g, 0⟩ 0 0 m sz, rs, [(⟨d, g, 0⟩, ⟨0, true, true, l⟩)], true⟩ else none
          | .sl id ver off n sz' =>
            match live σ id ver with
            | some blk => if blk.own = true ∧ blk.flat = true ∧ sz' = sz ∧ off + n * sz ≤ blk.cells.length ∧ (n + m) * by_ ≤ 140737488355328 ∧ n + m ≤ 9223372036854775807 then
                some ⟨.sl id (ver + 1) 0 (n + m) sz, id :: rs, [(id, ⟨ver + 1, true, true, (blk.cells.drop off).take (n * sz) ++ l⟩)], false⟩ else none
            | none => none
          | _ => none
        else none
      | none => none
    | _, _, _ => none
  | _ => none

theorem run_append_room_row {P : Program} (w : World) (t tx ty e : TypeId) (i : TypeInfo) (ht : P.underlying t = some (.slice e)) (hi : P.info? e = some i) (g off sLen sCap : Nat) (cur : Array Value) (et : TypeId) (hg : w.heap[g]? = some (.cells cur et (0, 0)))
    (x : Value) (n : Nat) (news : List Value) (hs : Src P i.size tx x n news w) (hroom : sLen + n ≤ sCap) (hfit : off + sLen * i.size + news.length ≤ cur.size) :
    (Builtin.append_ #[t, tx] ty #[.slice (some ⟨g, off, none⟩) sLen sCap, x]).run P w = .ok (.slice (some ⟨g, off, none⟩) (sLen + n) sCap)
      (w.setRow g (cur.toList.take (off + sLen * i.size) ++ news ++ cur.toList.drop (off + sLen * i.size + news.length)).toArray) := by
  have hst := run_storeCells_at P g (off + sLen * i.size) et news 0 cur w hg (by simpa using hfit) hs.one
  simp only [Nat.add_zero] at hst
  rcases hs.kind with ⟨e', hk⟩ | hk <;> simp [Builtin.append_, run_underlying ht, run_underlying hk, sizeOf, typeInfo, hi, hs.len, hroom, hs.cells, Addr.add_lit, hst]

theorem run_append_builtin {P : Program} {o : Oper} {a : Act} {w w' : World} {x y : Operand} {t tx : TypeId} {v : Value} (ho : o.op = .call { callee := .builtin .append, args := #[x, y], argTypes := #[t, tx] })
    (h : (Builtin.append_ #[t, tx] o.type #[a.eval x, a.eval y]).run P w = .ok v w') : (execOp a.eval o).run P w = .ok (.value v) w' := by
  refine run_builtin ho ?_
  simp only [builtin, Sem.run_bind, List.map_toArray, List.map_cons, List.map_nil, h, Result.andThen_ok, Sem.run_pure]

theorem zeroCells_size (z : Array Value) (n : Nat) : (Builtin.zeroCells z n).size = n * z.size := by simp [Builtin.zeroCells]

theorem append_getD (a b : List Value) (c : Array Value) (j : Nat) (h : j < (a ++ b).length) : ((a ++ b).toArray ++ c).getD j undef = if j < a.length then a.getD j undef else b.getD (j - a.length) undef := by
  rw [Array.getD_eq_getD_getElem?, Array.getElem?_append_left (by simpa using h)]
  simp only [List.getElem?_toArray, List.getElem?_append]
  split <;> simp [List.getD]

theorem opEff_append {P : Program} {o : Oper} {s : St} {x y : Operand} {t tx : TypeId} {d : Nat} {e : Eff} (ho : o.op = .call { callee := .builtin .append, args := #[x, y], argTypes := #[t, tx] }) (hd : o.dst = some d)
    (h : appendE P t tx (pv s.frame x) (pv s.frame y) s.store d (s.gens d) = some e) : OpEff P o s e := by
  refine ⟨fun s' h1 h2 h3 => ?_⟩
  rw [← h3 d hd, ← h1 x (by simp [ho, Op.operands, Call.operands]), ← h1 y (by simp [ho, Op.operands, Call.operands])] at h
  unfold appendE at h
  split at h
  · rename_i et hu
    split at h
    · rename_i sz by_ z hsz hby hz
      split at h
      · rename_i l m rs hsrc
        split at h
        · rename_i hc0
          obtain ⟨hsz0, hzl⟩ := hc0
          obtain ⟨i, v0, hi, hv0, hz0⟩ := zeroOf_info hz
          obtain ⟨i', hi', hisz⟩ := szOf_info hsz
          obtain ⟨i'', hi'', hiby⟩ := byOf_info hby
          rw [hi] at hi' hi''
          injection hi' with hi'; subst hi'
          injection hi'' with hi''; subst hi''
          have hzs : v0.cells.size = sz := by rw [hz0] at hzl; simpa using hzl
          split at h
          · rename_i hpx
            split at h
            · rename_i hc
              obtain ⟨hcb, hcm⟩ := hc
              injection h with h
              have hsrc' := srcV_congr hsrc (fun id hid => h2 id (by rw [← h]; exact hid))
              subst h
              clear h1 h2 h3
              intro cx a w K Q hr hn hK
              obtain ⟨β, hr⟩ := hr
              have vx := VR_pv hr.frame x
              rw [hpx] at vx
              obtain ⟨news, hS⟩ := srcV_run hr hsrc' hsz0 (VR_pv hr.frame y)
              have hS' := hS.src
              rw [← hisz] at hS'
              unfold Oper.wp
              by_cases hm : m = 0
              · subst hm
                have hrun : (execOp a.eval o).run P w = .ok (.value (.slice none 0 0)) w := by
                  refine run_append_builtin ho ?_
                  rw [vx.nilS_inv]
                  have hcz := hS.cells 0 (Nat.le_refl _) w rfl
                  simp only [Nat.zero_mul, List.take_zero] at hcz
                  rcases hS.kind with ⟨e', hk⟩ | hk <;> simp [Builtin.append_, run_underlying hu, run_underlying hk, sizeOf, typeInfo, hi, hS.len, hisz, hcz]
                rw [hrun]
                simp only [Oper.upon]
                have hll : l = [] := List.eq_nil_of_length_eq_zero (by rw [hS.llen]; simp)
                subst hll
                have hno := St.no_new hr d 0
                have hw := hr.writeNil ⟨d, s'.gens d, 0⟩ 0 (upd s'.gens d (s'.gens d + 1)) (fun blk hb => by rw [hno] at hb; cases hb) (fun id blk hb => by
                  have := hr.gens id blk hb
                  by_cases hd' : id.d = d
                  · rw [hd'] at this ⊢; simp; omega
                  · rw [upd_other _ _ _ _ hd']; exact this) (by simp)
                refine hK _ _ ⟨_, (hw.put o.dst (.sl ⟨d, s'.gens d, 0⟩ 0 0 0 sz) _ hn fun _ _ => ?_).congr_store ?_ ?_ ?_⟩
                · exact .sl _ _ _ _ _ _ ⟨0, true, true, []⟩ (by simp [env]) (Nat.le_refl _) (fun _ => by simp [env, SlAt]) rfl
                · simp [St.eff, St.put, hd]
                · simp [St.eff, St.put, hd, wrs]
                · simp [St.eff, St.put, hd]
              · have hrun := run_append_grow_src (P := P) w t tx o.type et i v0 hu hi hv0 none 0 0 [] (by simp [Builtin.firstCells]) (a.eval y) m news hS' (by omega) (by omega) (by rw [hiby]; exact growslice_fits (by omega) (by simpa using hcb))
                simp only [Nat.zero_add, List.nil_append] at hrun
                rw [run_append_builtin (w' := w.drew.alloc (.cells (news.toArray ++ Builtin.zeroCells v0.cells (grownCap w m 0 et - m)) et)) ho (by rw [vx.nilS_inv]; exact hrun)]
                simp only [Oper.upon]
                have hcap := grownCap_ge w m 0 et
                have hcapm := grownCap_le_maxLen w m 0 et (by simp only [maxLen]; omega)
                have hnew := hr.drew.new d true l (news.toArray ++ Builtin.zeroCells v0.cells (grownCap w m 0 et - m)) et (by simp only [Array.size_append, List.size_toArray, hS.nlen, hS.llen]; omega)
                  (fun j hj => by
                    have := (hS.vr j hj).mono (env_drew _ _ _ _).bare
                    rw [Array.getD_eq_getD_getElem?, Array.getElem?_append_left (by simp [hS.nlen]; rw [← hS.llen]; exact hj)]
                    simpa [List.getD] using this)
                  (fun j hj => by
                    have := hS.one j hj
                    rw [Array.getD_eq_getD_getElem?, Array.getElem?_append_left (by simp [hS.nlen]; rw [← hS.llen]; exact hj)]
                    simpa [List.getD] using this)
                refine hK _ _ ⟨_, (hnew.put o.dst (.sl ⟨d, s'.gens d, 0⟩ 0 0 m sz) _ hn fun _ _ => ?_).congr_store ?_ ?_ ?_⟩
                · refine .sl _ _ _ _ _ _ ⟨0, true, true, l⟩ (by simp [env]) (Nat.le_refl _) (fun _ => ?_) rfl
                  simp only [env, updI_same, SlAt]
                  refine ⟨grownCap w m 0 et, rfl, hcap, hcapm, _, et, (0, 0), heap_alloc_new w.drew _, ?_⟩
                  simp only [Array.size_append, List.size_toArray, hS.nlen, zeroCells_size, hzs]
                  rw [← Nat.add_mul]
                  exact Nat.le_of_eq (by simp [show m + (grownCap w m 0 et - m) = grownCap w m 0 et from by omega])
                · simp [St.eff, St.put, hd]
                · simp [St.eff, St.put, hd, wrs]
                · simp [St.eff, St.put, hd]
            · cases h
          · rename_i id ver off n sz' hpx
            split at h
            · rename_i blk hl
              split at h
              · rename_i hc
                obtain ⟨c1, c2, rfl, c4, c5, c6⟩ := hc
                injection h with h
                have hsrc' := srcV_congr hsrc (fun id hid => h2 id (by rw [← h]; simp [hid]))
                have hl' : live s'.store id ver = some blk := by rw [live_congr (h2 id (by rw [← h]; simp))]; exact hl
                subst h
                clear h1 h2 h3
                intro cx a w K Q hr hn hK
                obtain ⟨β, hr⟩ := hr
                obtain ⟨hb, hver⟩ := live_spec hl'
                have vx := VR_pv hr.frame x
                rw [hpx] at vx
                obtain ⟨news, hS⟩ := srcV_run hr hsrc' hsz0 (VR_pv hr.frame y)
                have hS' := hS.src
                rw [← hisz] at hS'
                have hsl := vx.sl_inv hb hver
                have hgid : ∀ id' blk', s'.store id' = some blk' → id'.g < s'.gens id'.d := hr.gens
                have hlen' : ((blk.cells.drop off).take (n * sz')).length = n * sz' := by simp; omega
                have hLlen : ((blk.cells.drop off).take (n * sz') ++ l).length = (n + m) * sz' := by rw [List.length_append, hlen', hS.llen, Nat.add_mul]
                have hget : ∀ j, ((blk.cells.drop off).take (n * sz') ++ l).getD j .any = if j < n * sz' then blk.cells.getD (off + j) .any else l.getD (j - n * sz') .any := by
                  intro j
                  simp only [List.getD, List.getElem?_append, hlen']
                  split
                  · rename_i hj
                    rw [List.getElem?_take, if_pos hj, List.getElem?_drop]
                  · rfl
                unfold Oper.wp
                unfold SlAt at hsl
                split at hsl
                · rename_i hβ
                  have hβ : β id = none := hβ
                  obtain ⟨hv, hn0⟩ := hsl
                  subst hn0
                  by_cases hm : m = 0
                  · subst hm
                    have hrun : (execOp a.eval o).run P w = .ok (.value (.slice none 0 0)) w := by
                      refine run_append_builtin ho ?_
                      rw [hv]
                      have hcz := hS.cells 0 (Nat.le_refl _) w rfl
                      simp only [Nat.zero_mul, List.take_zero] at hcz
                      rcases hS.kind with ⟨e', hk⟩ | hk <;> simp [Builtin.append_, run_underlying hu, run_underlying hk, sizeOf, typeInfo, hi, hS.len, hisz, hcz]
                    rw [hrun]
                    simp only [Oper.upon]
                    have hll : l = [] := List.eq_nil_of_length_eq_zero (by rw [hS.llen]; simp)
                    subst hll
                    have hw := hr.writeNil id (ver + 1) s'.gens (fun b hb' => by rw [hb] at hb'; injection hb' with hb'; subst hb'; exact ⟨hβ, by omega⟩) hr.gens (hr.gens id blk hb)
                    refine hK _ _ ⟨_, (hw.put o.dst (.sl id (ver + 1) 0 (0 + 0) sz') _ hn fun _ _ => ?_).congr_store ?_ ?_ ?_⟩
                    · exact .sl _ _ _ _ _ _ ⟨ver + 1, true, true, []⟩ (by simp [env]) (Nat.le_refl _) (fun _ => by simp [env, SlAt]) rfl
                    · simp [St.eff, St.put, hd]
                    · simp [St.eff, St.put, hd, wrs]
                    · simp [St.eff, St.put, hd]
                  · have hrun := run_append_grow_src (P := P) w t tx o.type et i v0 hu hi hv0 none 0 0 [] (by simp [Builtin.firstCells]) (a.eval y) m news hS' (by omega) (by omega) (by rw [hiby]; exact growslice_fits (by omega) (by simpa using c5))
                    simp only [Nat.zero_add, List.nil_append] at hrun
                    rw [run_append_builtin (w' := w.drew.alloc (.cells (news.toArray ++ Builtin.zeroCells v0.cells (grownCap w m 0 et - m)) et)) ho (by rw [hv]; exact hrun)]
                    simp only [Oper.upon]
                    have hcap := grownCap_ge w m 0 et
                    have hcapm := grownCap_le_maxLen w m 0 et (by simp only [maxLen]; omega)
                    have hB := hr.keeps.size
                    have hnew := hr.drew.write (w' := w.drew.alloc (.cells (news.toArray ++ Builtin.zeroCells v0.cells (grownCap w m 0 et - m)) et)) id ⟨ver + 1, true, true, (blk.cells.drop off).take (0 * sz') ++ l⟩ w.heap.size 0 s'.gens (Keeps.alloc _ _ _ _ hB) (fun k _ hk => heap_alloc_old w.drew _ k hk) (.inl (Nat.le_refl _))
                      (fun b hb' => by rw [hb] at hb'; injection hb' with hb'; subst hb'; exact ⟨by simp; omega, fun e => by simp at e; omega⟩) (fun Le => ?_) hr.gens (hr.gens id blk hb)
                    · refine hK _ _ ⟨_, (hnew.put o.dst (.sl id (ver + 1) 0 (0 + m) sz') _ hn fun _ _ => ?_).congr_store ?_ ?_ ?_⟩
                      · refine .sl _ _ _ _ _ _ ⟨ver + 1, true, true, (blk.cells.drop off).take (0 * sz') ++ l⟩ (by simp [env]) (Nat.le_refl _) (fun _ => ?_) rfl
                        simp only [env, updI_same, SlAt, Nat.zero_add]
                        refine ⟨grownCap w m 0 et, rfl, hcap, hcapm, _, et, (0, 0), heap_alloc_new w.drew _, ?_⟩
                        simp only [Array.size_append, List.size_toArray, hS.nlen, zeroCells_size, hzs]
                        rw [← Nat.add_mul]
                        exact Nat.le_of_eq (by simp [show m + (grownCap w m 0 et - m) = grownCap w m 0 et from by omega])
                      · simp [St.eff, St.put, hd]
                      · simp [St.eff, St.put, hd, wrs]
                      · simp [St.eff, St.put, hd]
                    · simp only [Nat.zero_mul, List.take_zero, List.nil_append] at *
                      refine BlkAt.rel (g := w.heap.size) (o := 0) (c := news.toArray ++ Builtin.zeroCells v0.cells (grownCap w m 0 et - m)) (e := et) (fz := (0, 0)) ⟨heap_alloc_new w.drew _, fun _ => rfl, by simp only [Array.size_append, List.size_toArray, hS.nlen, hS.llen]; omega, fun j hj => ?_, fun j hj => ?_⟩ (by simp [env]) (.inl hB)
                      · have := hS.vr j hj
                        simp only [if_true]
                        rw [Nat.zero_add, Array.getD_eq_getD_getElem?, Array.getElem?_append_left (by simp [hS.nlen]; rw [← hS.llen]; exact hj)]
                        have := (this.mono (env_drew _ _ _ _).bare).mono Le.bare
                        simpa [List.getD] using this
                      · have := hS.one j hj
                        rw [Nat.zero_add, Array.getD_eq_getD_getElem?, Array.getElem?_append_left (by simp [hS.nlen]; rw [← hS.llen]; exact hj)]
                        simpa [List.getD] using this
                · rename_i g o0 hβ
                  have hβ : β id = some (g, o0) := hβ
                  obtain ⟨cap, hv, k1, k2, k3⟩ := hsl
                  obtain ⟨_, cur, cet, fz, hat⟩ := (hr.blocks id blk hb).at_ hβ
                  have hfz := hat.own c1
                  subst hfz
                  have hheap : w.heap[g]? = some (.cells cur cet (0, 0)) := hat.heap
                  have hsize := hat.size
                  have hroom : o0 + off + cap * sz' ≤ cur.size := by
                    obtain ⟨cc, e', fz', q1, q2⟩ := k3
                    have q1 : w.heap[g]? = some (.cells cc e' fz') := q1
                    rw [hheap] at q1; injection q1 with q1; injection q1 with q1 _ _; subst q1; exact q2
                  by_cases hfit : n + m ≤ cap
                  · have hmul : (n + m) * sz' ≤ cap * sz' := Nat.mul_le_mul_right _ hfit
                    rw [Nat.add_mul] at hmul
                    have hrun := run_append_room_row (P := P) w t tx o.type et i hu hi g (o0 + off) n cap cur cet hheap (a.eval y) m news hS' hfit (by rw [hisz, hS.nlen]; omega)
                    rw [run_append_builtin ho (by rw [hv]; exact hrun)]
                    simp only [Oper.upon]
                    rw [hisz]
                    have hnl := hS.nlen
                    have hcur : ∀ j, ((cur.toList.take (o0 + off + n * sz') ++ news ++ cur.toList.drop (o0 + off + n * sz' + news.length)).toArray).getD j undef = if o0 + off + n * sz' ≤ j ∧ j < o0 + off + n * sz' + m * sz' then news.getD (j - (o0 + off + n * sz')) undef else cur.getD j undef := by
                      intro j
                      rw [toArray_getD, splice_getD _ _ _ _ _ (by simp; omega), hnl, toList_getD cur]
                    have hcs : ((cur.toList.take (o0 + off + n * sz') ++ news ++ cur.toList.drop (o0 + off + n * sz' + news.length)).toArray).size = cur.size := by
                      simp only [List.size_toArray]; rw [splice_length _ _ _ (by simp; omega)]; simp
                    have hre := hr.rewrite hb c1 hβ hheap _ hcs ⟨ver + 1, true, true, (blk.cells.drop off).take (n * sz') ++ l⟩ (o0 + off) ⟨by simp; omega, fun e => by simp at e; omega⟩ (by simp only; rw [hLlen, Nat.add_mul]; omega)
                      (fun j hj => ?_) (fun j hj => ?_)
                    · refine hK _ _ ⟨_, (hre.put o.dst (.sl id (ver + 1) 0 (n + m) sz') _ hn fun _ _ => ?_).congr_store ?_ ?_ ?_⟩
                      · refine .sl _ _ _ _ _ _ ⟨ver + 1, true, true, (blk.cells.drop off).take (n * sz') ++ l⟩ (by simp [env]) (Nat.le_refl _) (fun _ => ?_) rfl
                        simp only [env, updI_same, SlAt]
                        exact ⟨cap, rfl, hfit, k2, _, cet, (0, 0), setRow_heap w g cur _ cet (0, 0) hheap, by rw [hcs]; omega⟩
                      · simp [St.eff, St.put, hd]
                      · simp [St.eff, St.put, hd, wrs]
                      · simp [St.eff, St.put, hd]
                    · simp only [if_true] at hj ⊢
                      rw [hLlen, Nat.add_mul] at hj
                      rw [hget, hcur]
                      by_cases hj2 : j < n * sz'
                      · rw [if_pos hj2, if_neg (by omega)]
                        have := hat.cell (off + j) (by omega)
                        rw [if_pos c2] at this
                        rw [Nat.add_assoc]
                        exact this
                      · rw [if_neg hj2, if_pos (by omega)]
                        have := hS.vr (j - n * sz') (by rw [hS.llen]; omega)
                        rw [show o0 + off + j - (o0 + off + n * sz') = j - n * sz' by omega]
                        exact this
                    · simp only at hj ⊢
                      rw [hLlen, Nat.add_mul] at hj
                      rw [hcur]
                      by_cases hj2 : j < n * sz'
                      · rw [if_neg (by omega), Nat.add_assoc]
                        exact hat.one (off + j) (by omega)
                      · rw [if_pos (by omega), show o0 + off + j - (o0 + off + n * sz') = j - n * sz' by omega]
                        exact hS.one (j - n * sz') (by rw [hS.llen]; omega)
                  · have holds : ∀ j, j < n * sz' → w.cell? ((⟨g, o0 + off, none⟩ : Addr).add j) = some (cur.getD (o0 + off + j) undef) := by
                      intro j hj
                      rw [add_lit, cell_of_row w g _ cur cet (0, 0) hheap, agetD cur _ (by omega)]
                    have hold := firstCells_at (P := P) (w := w) (sz := sz') ⟨g, o0 + off, none⟩ n cap n (fun j => cur.getD (o0 + off + j) undef) (Nat.le_refl _) holds w.drew rfl
                    rw [List.take_of_length_le (by simp)] at hold
                    have hrun := run_append_grow_src (P := P) w t tx o.type et i v0 hu hi hv0 (some ⟨g, o0 + off, none⟩) n cap _ (by rw [hisz]; exact hold) (a.eval y) m news hS' (by omega) (by omega) (by rw [hiby]; exact growslice_fits (by omega) c5)
                    rw [run_append_builtin ho (by rw [hv]; exact hrun)]
                    simp only [Oper.upon]
                    have hcap := grownCap_ge w (n + m) cap et
                    have hcapm := grownCap_le_maxLen w (n + m) cap et (by simp only [maxLen]; omega)
                    have hB := hr.keeps.size
                    have hol : ((List.range (n * sz')).map fun j => cur.getD (o0 + off + j) undef).length = n * sz' := by simp
                    generalize hOs : ((List.range (n * sz')).map fun j => cur.getD (o0 + off + j) undef) = olds at *
                    have hold : ∀ j, j < n * sz' → olds.getD j undef = cur.getD (o0 + off + j) undef := by
                      intro j hj; rw [← hOs]; simp [List.getD, hj]
                    generalize hgc : grownCap w (n + m) cap et = gc at *
                    have hnew := hr.drew.write (w' := w.drew.alloc (.cells ((olds ++ news).toArray ++ Builtin.zeroCells v0.cells (gc - (n + m))) et)) id ⟨ver + 1, true, true, (blk.cells.drop off).take (n * sz') ++ l⟩ w.heap.size 0 s'.gens (Keeps.alloc _ _ _ _ hB) (fun k _ hk => heap_alloc_old w.drew _ k hk) (.inl (Nat.le_refl _))
                      (fun b hb' => by rw [hb] at hb'; injection hb' with hb'; subst hb'; exact ⟨by simp; omega, fun e => by simp at e; omega⟩) (fun Le => ?_) hr.gens (hr.gens id blk hb)
                    · refine hK _ _ ⟨_, (hnew.put o.dst (.sl id (ver + 1) 0 (n + m) sz') _ hn fun _ _ => ?_).congr_store ?_ ?_ ?_⟩
                      · refine .sl _ _ _ _ _ _ ⟨ver + 1, true, true, (blk.cells.drop off).take (n * sz') ++ l⟩ (by simp [env]) (Nat.le_refl _) (fun _ => ?_) rfl
                        simp only [env, updI_same, SlAt, Nat.zero_add]
                        refine ⟨gc, rfl, hcap, hcapm, _, et, (0, 0), heap_alloc_new w.drew _, ?_⟩
                        simp only [Array.size_append, List.size_toArray, List.length_append, hol, hS.nlen, zeroCells_size, hzs]
                        rw [← Nat.add_mul, ← Nat.add_mul]
                        exact Nat.le_of_eq (by rw [show n + m + (gc - (n + m)) = gc by omega])
                      · simp [St.eff, St.put, hd]
                      · simp [St.eff, St.put, hd, wrs]
                      · simp [St.eff, St.put, hd]
                    · refine BlkAt.rel (g := w.heap.size) (o := 0) (c := (olds ++ news).toArray ++ Builtin.zeroCells v0.cells (gc - (n + m))) (e := et) (fz := (0, 0)) ⟨heap_alloc_new w.drew _, fun _ => rfl, ?_, fun j hj => ?_, fun j hj => ?_⟩ (by simp [env]) (.inl hB)
                      · simp only; rw [hLlen]; simp only [Array.size_append, List.size_toArray, List.length_append, hol, hS.nlen, Nat.add_mul]; omega
                      · simp only [if_true] at hj ⊢
                        rw [hLlen, Nat.add_mul] at hj
                        rw [Nat.zero_add, append_getD _ _ _ _ (by rw [List.length_append, hol, hS.nlen]; exact hj), hget, hol]
                        by_cases hj2 : j < n * sz'
                        · rw [if_pos hj2, if_pos hj2, hold j hj2]
                          have := hat.cell (off + j) (by omega)
                          rw [if_pos c2] at this
                          rw [Nat.add_assoc]
                          exact (this.mono (env_drew _ _ _ _).bare).mono Le.bare
                        · rw [if_neg hj2, if_neg hj2]
                          exact ((hS.vr (j - n * sz') (by rw [hS.llen]; omega)).mono (env_drew _ _ _ _).bare).mono Le.bare
                      · simp only at hj ⊢
                        rw [hLlen, Nat.add_mul] at hj
                        rw [Nat.zero_add, append_getD _ _ _ _ (by rw [List.length_append, hol, hS.nlen]; exact hj), hol]
                        by_cases hj2 : j < n * sz'
                        · rw [if_pos hj2, hold j hj2, Nat.add_assoc]
                          exact hat.one (off + j) (by omega)
                        · rw [if_neg hj2]
                          exact hS.one (j - n * sz') (by rw [hS.llen]; omega)
              · cases h
            · cases h
          · cases h
        · cases h
      · cases h
    · cases h
  · cases h

end Go.Proofs.YtabofinagjdljaaE
