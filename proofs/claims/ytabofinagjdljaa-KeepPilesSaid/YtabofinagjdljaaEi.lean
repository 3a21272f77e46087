/- Slices that are made, literals, appends, copies. -/
import Derived.Test.YtabofinagjdljaaEh
set_option linter.unusedVariables false
set_option linter.unusedSimpArgs false
namespace Go.Proofs.YtabofinagjdljaaE
open Go.RowKit

theorem flat_rep {α : Type} (z : List α) (d : α) : ∀ (n j : Nat), j < n * z.length → ((List.replicate n z).flatten).getD j d = z.getD (j % z.length) d
  | 0, j, h => by simp at h
  | n + 1, j, h => by
    simp only [List.replicate_succ, List.flatten_cons]
    by_cases hj : j < z.length
    · rw [Nat.mod_eq_of_lt hj]
      simp [List.getD, List.getElem?_append_left hj]
    · have h' : j - z.length < n * z.length := by rw [Nat.add_mul] at h; omega
      have ih := flat_rep z d n (j - z.length) h'
      rw [Nat.mod_eq_sub_mod (by omega)]
      rw [← ih]
      simp [List.getD, List.getElem?_append_right (Nat.not_lt.1 hj)]
theorem flat_rep_len {α : Type} (z : List α) (n : Nat) : ((List.replicate n z).flatten).length = n * z.length := by simp

theorem byOf_info {P : Program} {t : TypeId} {n : Nat} (h : byOf P t = some n) : ∃ i, P.info? t = some i ∧ i.bytes = n := by
  unfold byOf at h
  cases hi : P.info? t with
  | none => rw [hi] at h; cases h
  | some i => rw [hi] at h; injection h with h; exact ⟨i, rfl, h⟩

theorem zeroOf_info {P : Program} {t : TypeId} {z : List PV} (h : zeroOf P t = some z) : ∃ i v, P.info? t = some i ∧ i.zero = some v ∧ z = v.cells.toList.map ofConst := by
  unfold zeroOf at h
  cases hi : P.info? t with
  | none => rw [hi] at h; cases h
  | some i =>
    rw [hi] at h
    cases hv : i.zero with
    | none => simp [hv] at h
    | some v => simp [hv] at h; exact ⟨i, v, rfl, hv, h.symm⟩

/-- Constants in plain form stand for themselves in every environment. -/
theorem flat_zero {E : Env} : ∀ {z zf : List PV} {x : List Id}, flatCs (fun _ => none) z = some (zf, x) → zf.length = z.length ∧ ∀ j, j < z.length → ∀ v, VR E (z.getD j .any) v → VR E.bare (zf.getD j .any) v ∧ v.oneCell' = true
  | [], zf, x, h => by injection h with h; injection h with h1 h2; subst h1; exact ⟨rfl, by simp⟩
  | p :: z, zf, x, h => by
    simp only [flatCs] at h
    split at h
    · rename_i q x1 l y h1 h2
      injection h with h; injection h with e1 e2; subst e1
      obtain ⟨k1, k2⟩ := flat_zero (E := E) h2
      refine ⟨by simp [k1], fun j hj v hv => ?_⟩
      cases j with
      | zero =>
        simp at hv ⊢
        unfold flatC at h1
        split at h1 <;> first | (injection h1 with h1; injection h1 with h3 h4; subst h3) | skip
        · exact ⟨by rw [hv.int_inv]; exact .int _ _, hv.leaf_one rfl⟩
        · exact ⟨by rw [hv.bool_inv]; exact .bool _, hv.leaf_one rfl⟩
        · exact ⟨by rw [hv.str_inv]; exact .str _, hv.leaf_one rfl⟩
        · exact ⟨by rw [hv.nilS_inv]; exact .rd0 _ _ _ (Nat.le_refl _), hv.leaf_one rfl⟩
        · exact ⟨by rw [hv.nilP_inv]; exact .nilP, hv.leaf_one rfl⟩
        · exact ⟨by rw [hv.nilI_inv]; exact .nilI, hv.leaf_one rfl⟩
        · exact ⟨by rw [hv.nilF_inv]; exact .nilF, hv.leaf_one rfl⟩
        · refine ⟨?_, hv.leaf_one rfl⟩
          cases hv with
          | rd0 n A c h1 => exact .rd0 _ _ _ h1
          | rd l n a c us h1 h2 h3 h4 h5 => exact .rd _ _ _ _ us h1 h2 h3 h4 h5
        · refine ⟨?_, hv.leaf_one rfl⟩
          cases hv with
          | rp l a us h2 h3 h4 h5 => exact .rp _ _ us h2 h3 h4 h5
        · simp [live] at h1
        · cases h1
      | succ j => have := k2 j (by simpa using hj) v (by simpa using hv); simpa using this
    · cases h

/-! ### make -/
def makeE (P : Program) (t : TypeId) (n m : PV) (d g : Nat) : Option Eff :=
  match P.underlying t, n, m with
  | some (.slice e), .int _ l, .int _ c =>
    match szOf P e, byOf P e, zeroOf P e with
    | some sz, some by_, some z =>
      match flatCs (fun _ => none) z with
      | some (zf, _) => if l = c ∧ 0 ≤ l ∧ (by_ : Int) * l ≤ 140737488355328 ∧ l ≤ 9223372036854775807 ∧ z.length = sz ∧ z.all leafB = true then
          some ⟨.sl ⟨d, g, 0⟩ 0 0 l.toNat sz, [], [(⟨d, g, 0⟩, ⟨0, true, true, (List.replicate l.toNat zf).flatten⟩)], true⟩ else none
      | none => none
    | _, _, _ => none
  | _, _, _ => none

theorem madeCells_getD (z : Array Value) (n j : Nat) (h : j < n) (hz : z.size ≠ 0) : (madeCells z n).getD j undef = z.getD (j % z.size) undef := by
  have hm : j % z.size < z.size := Nat.mod_lt _ (Nat.pos_of_ne_zero hz)
  simp [madeCells, Array.getD_eq_getD_getElem?, h, hm]

theorem opEff_make {P : Program} {o : Oper} {s : St} {t : TypeId} {x y : Operand} {d : Nat} {e : Eff} (ho : o.op = .makeSlice t x y) (hd : o.dst = some d) (h : makeE P t (pv s.frame x) (pv s.frame y) d (s.gens d) = some e) : OpEff P o s e := by
  refine ⟨fun s' h1 h2 h3 => ?_⟩
  rw [← h3 d hd, ← h1 x (by simp [ho, Op.operands]), ← h1 y (by simp [ho, Op.operands])] at h
  clear h1 h2 h3
  unfold makeE at h
  split at h
  · rename_i et kl l kc c hu hx hy
    split at h
    · rename_i sz by_ z hsz hby hz
      split at h
      · rename_i zf xx hf
        split at h
        · rename_i hc
          obtain ⟨rfl, c2, c3, c4, c5, c6⟩ := hc
          injection h with h; subst h
          refine sim_new hd fun cx β a w hr => ?_
          have vx := VR_pv hr.frame x
          have vy := VR_pv hr.frame y
          rw [hx] at vx
          rw [hy] at vy
          obtain ⟨v0, hr0, hc0⟩ := zeroOf_spec (E := env cx β s'.store w) hz c6 w
          obtain ⟨i, v1, hi, hv1, hzl⟩ := zeroOf_info hz
          obtain ⟨i', hi', hisz⟩ := szOf_info hsz
          obtain ⟨i'', hi'', hiby⟩ := byOf_info hby
          rw [hi] at hi' hi''
          injection hi' with hi'; subst hi'
          injection hi'' with hi''; subst hi''
          have hv01 : v0 = v1 := by
            have : (zeroValue et).run P w = .ok v1 w := by simp [zeroValue, typeInfo, hi, hv1]
            rw [this] at hr0; injection hr0 with hr0 _; exact hr0.symm
          subst hv01
          obtain ⟨zl, zv⟩ := flat_zero (E := env cx β s'.store w) hf
          have hzs : v0.cells.size = sz := by rw [hc0.1, c5]
          have hlen : ((List.replicate l.toNat zf).flatten).length = l.toNat * sz := by rw [flat_rep_len, zl, c5]
          refine ⟨.slice (some ⟨w.heap.size, 0, none⟩) l.toNat l.toNat, madeCells v0.cells (l.toNat * i.size), et, ?_, by rw [hlen, size_madeCells, hisz]; exact Nat.le_refl _, ?_, ?_, ?_⟩
          · simp only [execOp, ho, vx.int_inv, vy.int_inv, Sem.run_bind, run_make w t et i v0 hu hi hv1 kl kc l l c2 (Int.le_refl _) (by rw [hiby]; omega) c4, Result.andThen_ok, Sem.run_pure]
          · intro j hj
            rw [hlen] at hj
            have hsz0 : v0.cells.size ≠ 0 := by intro e; rw [hzs] at e; rw [e] at hj; simp at hj
            rw [flat_rep zf _ _ _ (by rw [zl, c5]; exact hj), zl, c5, hisz, madeCells_getD _ _ _ hj hsz0, hzs]
            have hm : j % sz < z.length := by rw [c5]; exact Nat.mod_lt _ (by omega)
            exact (zv _ hm _ (hc0.2.1 _ hm)).1
          · intro j hj
            rw [hlen] at hj
            have hsz0 : v0.cells.size ≠ 0 := by intro e; rw [hzs] at e; rw [e] at hj; simp at hj
            rw [hisz, madeCells_getD _ _ _ hj hsz0, hzs]
            exact hc0.2.2 _ (by rw [c5]; exact Nat.mod_lt _ (by omega))
          · refine .sl _ _ _ _ _ _ ⟨0, true, true, (List.replicate l.toNat zf).flatten⟩ (by simp [env]) (Nat.le_refl _) (fun _ => ?_) rfl
            simp only [env, updI_same, SlAt]
            refine ⟨l.toNat, rfl, Nat.le_refl _, by simp only [maxLen]; omega, madeCells v0.cells (l.toNat * i.size), et, (0, 0), heap_alloc_new w _, ?_⟩
            rw [size_madeCells, hisz]; omega
        · cases h
      · cases h
    · cases h
  · cases h

/-! ### a literal of a slice -/
def fillL (sz : Nat) (cells : List PV) : List (Nat × List PV) → Option (List PV)
  | [] => some cells
  | (i, qs) :: rest => if qs.length = sz ∧ i * sz + sz ≤ cells.length then fillL sz (cells.take (i * sz) ++ qs ++ cells.drop (i * sz + sz)) rest else none

def flatParts (σ : Id → Option Blk) : List (Nat × PV) → Option (List (Nat × List PV) × List Id)
  | [] => some ([], [])
  | (i, p) :: r => if solid p = true then match flatCs σ (cellsOf p), flatParts σ r with
    | some (q, x), some (l, y) => some ((i, q) :: l, x ++ y)
    | _, _ => none else none

theorem fillL_run {E : Env} {sz : Nat} : ∀ (ps : List (Nat × List PV)) (vs : List (Nat × Value)) (l L : List PV) (cs : Array Value), fillL sz l ps = some L → Cells E l cs →
    vs.length = ps.length → (∀ j, j < ps.length → (vs.getD j (0, undef)).1 = (ps.getD j (0, [])).1 ∧ Cells E (ps.getD j (0, [])).2 (vs.getD j (0, undef)).2.cells) →
    ∃ cs', Instr.fill (fun i => some (i * sz, sz)) cs vs = some cs' ∧ Cells E L cs'
  | [], vs, l, L, cs, h, hc, hl, _ => by
    obtain rfl : vs = [] := List.eq_nil_of_length_eq_zero hl
    injection h with h; subst h
    exact ⟨cs, rfl, hc⟩
  | (i, qs) :: ps, vs, l, L, cs, h, hc, hl, hv => by
    cases vs with
    | nil => cases hl
    | cons v vs =>
      obtain ⟨i', v⟩ := v
      obtain ⟨e, hp⟩ := hv 0 (by simp)
      simp at e hp
      subst e
      simp only [fillL] at h
      split at h
      · rename_i hcond
        obtain ⟨c2, c3⟩ := hcond
        obtain ⟨v1, v2, v3⟩ := hp
        obtain ⟨k1, k2, k3⟩ := hc
        obtain ⟨f1, f2⟩ := fold_set (i' * sz) v.cells.toList 0 cs (by simp; omega)
        have hcs : Cells E (l.take (i' * sz) ++ qs ++ l.drop (i' * sz + sz)) ((v.cells.toList.zipIdx).foldl (fun cs x => cs.setIfInBounds (i' * sz + x.2) x.1) cs) := by
          have hget : ∀ j, (l.take (i' * sz) ++ qs ++ l.drop (i' * sz + sz)).getD j .any = if i' * sz ≤ j ∧ j < i' * sz + sz then qs.getD (j - i' * sz) .any else l.getD j .any := by
            intro j
            have := splice_getD l qs (i' * sz) j .any (by omega)
            rw [c2] at this
            exact this
          have hlen : (l.take (i' * sz) ++ qs ++ l.drop (i' * sz + sz)).length = l.length := by simp; omega
          refine ⟨by rw [f1, hlen]; exact k1, fun j hj => ?_, fun j hj => ?_⟩
          · rw [hlen] at hj
            rw [hget, f2]
            by_cases h1 : i' * sz ≤ j ∧ j < i' * sz + sz
            · rw [if_pos h1, if_pos (by simp; omega)]
              have := v2 (j - i' * sz) (by omega)
              simpa [Array.getD_eq_getD_getElem?, List.getD] using this
            · rw [if_neg h1, if_neg (by simp; omega)]
              exact k2 j hj
          · rw [hlen] at hj
            rw [f2]
            by_cases h1 : i' * sz ≤ j ∧ j < i' * sz + sz
            · rw [if_pos (by simp; omega)]
              have := v3 (j - i' * sz) (by omega)
              simpa [Array.getD_eq_getD_getElem?, List.getD] using this
            · rw [if_neg (by simp; omega)]
              exact k3 j hj
        obtain ⟨cs', e1, e2⟩ := fillL_run ps vs _ L _ h hcs (by simpa using hl) (fun j hj => by have := hv (j + 1) (by simp; omega); simpa using this)
        refine ⟨cs', ?_, e2⟩
        simp only [Instr.fill]
        rw [if_neg (by simp; omega), fold_zip]
        exact e1
      · cases h

theorem flatParts_congr {σ σ' : Id → Option Blk} : ∀ {ps : List (Nat × PV)} {qs : List (Nat × List PV)} {ids : List Id}, flatParts σ ps = some (qs, ids) → (∀ id ∈ ids, σ' id = σ id) → flatParts σ' ps = some (qs, ids)
  | [], qs, ids, h, _ => h
  | (i, p) :: ps, qs, ids, h, hs => by
    simp only [flatParts] at *
    split at h
    · rename_i hso
      rw [if_pos hso]
      split at h
      · rename_i q x l y h1 h2
        injection h with h; injection h with e1 e2; subst e2
        rw [flatCs_congr h1 (fun id hid => hs id (by simp [hid])), flatParts_congr h2 (fun id hid => hs id (by simp [hid]))]
        simp [e1]
      · cases h
    · cases h

theorem flatParts_VR {c : Ctx} {β : Id → Option (Nat × Nat)} {s : St} {a : Act} {w : World} (h : RelB c β s a w) (ids : List Id) : ∀ (ps : List (Nat × PV)) (qs : List (Nat × List PV)) (x : List Id), flatParts s.store ps = some (qs, x) → (∀ id ∈ x, id ∈ ids) →
    qs.length = ps.length ∧ ∀ j, j < ps.length → (qs.getD j (0, [])).1 = (ps.getD j (0, .any)).1 ∧ ∀ v, VR (env c β s.store w) (ps.getD j (0, .any)).2 v → Cells (env c β (wrs s.store (frzL s.store ids)) w).bare (qs.getD j (0, [])).2 v.cells
  | [], qs, x, hc, _ => by injection hc with hc; injection hc with h1 h2; subst h1; exact ⟨rfl, by simp⟩
  | (i, p) :: ps, qs, x, hc, hsub => by
    simp only [flatParts] at hc
    split at hc
    · rename_i hso
      split at hc
      · rename_i q x1 l y h1 h2
        injection hc with hc; injection hc with e1 e2; subst e1; subst e2
        obtain ⟨k1, k2⟩ := flatParts_VR h ids ps l y h2 (fun id hid => hsub id (by simp [hid]))
        refine ⟨by simp [k1], fun j hj => ?_⟩
        cases j with
        | zero =>
          simp
          intro v hv
          obtain ⟨m1, m2, m3⟩ := hv.cells hso
          obtain ⟨n1, n2⟩ := flatCs_VR h ids _ _ _ h1 (fun id hid => hsub id (by simp [hid]))
          exact ⟨by rw [m1, n1], fun j hj => (n2 j (by omega) _ (m2 j (by omega))).1, fun j hj => m3 j (by omega)⟩
        | succ j => simp; have := k2 j (by simpa using hj); simpa using this
      · cases hc
    · cases hc

def litE (P : Program) (t : TypeId) (len : Nat) (ps : List (Nat × PV)) (σ : Id → Option Blk) (d g : Nat) : Option Eff :=
  match P.underlying t with
  | some (.slice e) =>
    match szOf P e, zeroOf P e with
    | some sz, some z =>
      match flatCs (fun _ => none) z, flatParts σ ps with
      | some (zf, _), some (qs, ids) =>
        if z.length = sz ∧ z.all leafB = true ∧ len * sz ≤ 16777216 ∧ len ≤ 16777216 then
          (fillL sz (List.replicate len zf).flatten qs).map fun L => ⟨.sl ⟨d, g, 0⟩ 0 0 len sz, ids, (⟨d, g, 0⟩, ⟨0, true, true, L⟩) :: frzL σ ids, true⟩
        else none
      | _, _ => none
    | _, _ => none
  | _ => none

theorem Cells.mono {E E' : Env} (L : E.Le E') {l : List PV} {cs : Array Value} (h : Cells E l cs) : Cells E' l cs := ⟨h.1, fun j hj => (h.2.1 j hj).mono L, h.2.2⟩

theorem fillL_len {sz : Nat} : ∀ (ps : List (Nat × List PV)) (l L : List PV), fillL sz l ps = some L → L.length = l.length
  | [], l, L, h => by injection h with h; rw [h]
  | (i, qs) :: ps, l, L, h => by
    simp only [fillL] at h
    split at h
    · rename_i hc
      rw [fillL_len ps _ L h]
      simp; omega
    · cases h

theorem frozen_le {c : Ctx} {β : Id → Option (Nat × Nat)} (σ : Id → Option Blk) (ids : List Id) (w : World) : (env c β σ w).Le (env c β (wrs σ (frzL σ ids)) w) := by
  refine ⟨?_, fun _ _ => rfl, fun _ _ h => h, ?_⟩
  · rintro g ⟨h1, h2, h3⟩
    refine ⟨h1, h2, fun id blk o q1 q2 q3 => ?_⟩
    have q1 : wrs σ (frzL σ ids) id = some blk := q1
    rw [wrs_frzL] at q1
    split at q1
    · cases hs : σ id with
      | none => rw [hs] at q1; cases q1
      | some b => rw [hs] at q1; injection q1 with q1; subst q1; cases q2
    · exact h3 id blk o q1 q2 q3
  · intro id blk hs
    simp only [env] at hs ⊢
    rw [wrs_frzL]
    split
    · rw [hs]; exact ⟨_, rfl, Nat.le_refl _, fun _ => by trivial⟩
    · exact ⟨blk, hs, Nat.le_refl _, fun _ => by trivial⟩

theorem opEff_lit {P : Program} {o : Oper} {s : St} {t : TypeId} {len : Nat} {ps : Array (Nat × Operand)} {d : Nat} {e : Eff} (ho : o.op = .buildSlice t len ps) (hd : o.dst = some d)
    (h : litE P t len (allParts (pv s.frame) ps.toList) s.store d (s.gens d) = some e) : OpEff P o s e := by
  refine ⟨fun s' h1 h2 h3 => ?_⟩
  have hap : allParts (pv s'.frame) ps.toList = allParts (pv s.frame) ps.toList := allParts_congr _ fun x hx => h1 x (by simpa [ho, Op.operands] using hx)
  rw [← h3 d hd, ← hap] at h
  unfold litE at h
  split at h
  · rename_i et hu
    split at h
    · rename_i sz z hsz hz
      split at h
      · rename_i zf xx qs ids hf hq
        split at h
        · rename_i hc
          obtain ⟨c1, c2, c3, c4⟩ := hc
          cases hfl : fillL sz (List.replicate len zf).flatten qs with
          | none => rw [hfl] at h; cases h
          | some L =>
            rw [hfl] at h; injection h with h
            have hreads : ∀ id ∈ ids, s'.store id = s.store id := fun id hid => h2 id (by rw [← h]; exact hid)
            have hfr : frzL s.store ids = frzL s'.store ids := (frzL_congr ids hreads).symm
            rw [hfr] at h
            have hq : flatParts s'.store (allParts (pv s'.frame) ps.toList) = some (qs, ids) := flatParts_congr hq hreads
            subst h
            clear h1 h2 h3
            intro cx a w K Q hr hn hK
            obtain ⟨β, hr⟩ := hr
            obtain ⟨v0, hr0, hc0⟩ := zeroOf_spec (E := env cx β s'.store w) hz c2 w
            obtain ⟨zl, zv⟩ := flat_zero (E := env cx β s'.store w) hf
            have hzs : v0.cells.size = sz := by rw [hc0.1, c1]
            have hLf := frozen_le (c := cx) (β := β) s'.store ids w
            obtain ⟨p1, p2⟩ := flatParts_VR hr ids _ _ _ hq (fun _ h => h)
            obtain ⟨g1, g2⟩ := getD_allParts hr.frame ps.toList
            have hzero : Cells (env cx β (wrs s'.store (frzL s'.store ids)) w).bare (List.replicate len zf).flatten ((Array.range (len * sz)).map (fun i => (if len * sz = 0 then #[] else v0.cells)[i % (if len * sz = 0 then #[] else v0.cells).size]!)) := by
              have hlen : ((List.replicate len zf).flatten).length = len * sz := by rw [flat_rep_len, zl, c1]
              refine ⟨by simp [hlen], fun j hj => ?_, fun j hj => ?_⟩
              · rw [hlen] at hj
                have hne : len * sz ≠ 0 := by omega
                have hsz0 : sz ≠ 0 := by intro e; rw [e] at hne; simp at hne
                have hm : j % sz < sz := Nat.mod_lt _ (by omega)
                rw [flat_rep zf _ _ _ (by rw [zl, c1]; exact hj), zl, c1]
                have : ((Array.range (len * sz)).map (fun i => (if len * sz = 0 then #[] else v0.cells)[i % (if len * sz = 0 then #[] else v0.cells).size]!)).getD j undef = v0.cells.getD (j % sz) undef := by
                  simp [hne, Array.getD_eq_getD_getElem?, hj, hzs, hm]
                rw [this]
                exact ((zv _ (by omega) _ (hc0.2.1 _ (by omega))).1).mono hLf.bare
              · rw [hlen] at hj
                have hne : len * sz ≠ 0 := by omega
                have hsz0 : sz ≠ 0 := by intro e; rw [e] at hne; simp at hne
                have hm : j % sz < sz := Nat.mod_lt _ (by omega)
                have : ((Array.range (len * sz)).map (fun i => (if len * sz = 0 then #[] else v0.cells)[i % (if len * sz = 0 then #[] else v0.cells).size]!)).getD j undef = v0.cells.getD (j % sz) undef := by
                  simp [hne, Array.getD_eq_getD_getElem?, hj, hzs, hm]
                rw [this]
                exact hc0.2.2 _ (by omega)
            obtain ⟨cs', e1, e2⟩ := fillL_run qs (ps.map fun (i, x) => (i, a.eval x)).toList _ L _ hfl hzero (by simp [p1, g1]) (fun j hj => by
              rw [p1] at hj
              have k1 := p2 j hj
              have k2 := g2 j (by omega)
              have hl : (ps.map fun (i, x) => (i, a.eval x)).toList = ps.toList.map fun x => (x.1, a.eval x.2) := by simp
              rw [hl]
              exact ⟨by rw [k2.1, k1.1], k1.2 _ k2.2⟩)
            have hrun : (execOp a.eval o).run P w = .ok (.value (.slice (some ⟨w.heap.size, 0, none⟩) len len)) (w.alloc (.cells cs' et)) := by
              simp only [execOp, ho, Instr.buildSlice, Sem.run_bind, run_underlying hu, Result.andThen_ok, run_sizeOf hsz]
              rw [if_neg (by omega)]
              by_cases hne : len * sz = 0
              · simp only [hne, if_true, Sem.run_bind, Sem.run_pure, Result.andThen_ok] at e1 ⊢
                rw [e1]
                simp [newRow, newObj, Sem.run]
              · simp only [hne, if_false, Sem.run_bind, hr0, Sem.run_pure, Result.andThen_ok] at e1 ⊢
                rw [e1]
                simp [newRow, newObj, Sem.run]
            have hLlen : L.length = len * sz := by rw [fillL_len qs _ L hfl, flat_rep_len, zl, c1]
            have hnew := (hr.freezes ids).new d true L cs' et (by rw [e2.1]; exact Nat.le_refl _) (fun j hj => by simpa using e2.2.1 j hj) e2.2.2
            unfold Oper.wp
            rw [hrun]
            simp only [Oper.upon]
            refine hK _ _ ⟨_, (hnew.put o.dst (.sl ⟨d, s'.gens d, 0⟩ 0 0 len sz) _ hn fun _ _ => ?_).congr_store ?_ ?_ ?_⟩
            · refine .sl _ _ _ _ _ _ ⟨0, true, true, L⟩ (by simp [env]) (Nat.le_refl _) (fun _ => ?_) rfl
              simp only [env, updI_same, SlAt]
              refine ⟨len, rfl, Nat.le_refl _, ?_, cs', et, (0, 0), heap_alloc_new w _, ?_⟩
              · simp only [maxLen]
                omega
              · rw [e2.1, hLlen]; omega
            · simp [St.eff, St.put, hd]
            · simp [St.eff, St.put, hd, wrs]
            · simp [St.eff, St.put, hd]
        · cases h
      · cases h
    · cases h
  · cases h

end Go.Proofs.YtabofinagjdljaaE
