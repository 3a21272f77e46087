/- The machine yields the values of Ec. -/
import Derived.Test.YtabofinagjdljaaEc
set_option linter.unusedVariables false
set_option linter.unusedSimpArgs false
namespace Go.Proofs.YtabofinagjdljaaE
open Go.RowKit

section
variable {P : Program} {E : Env}

theorem szOf_info {t : TypeId} {n : Nat} (h : szOf P t = some n) : ∃ i, P.info? t = some i ∧ i.size = n := by
  unfold szOf at h
  cases hi : P.info? t with
  | none => rw [hi] at h; cases h
  | some i => rw [hi] at h; injection h with h; exact ⟨i, rfl, h⟩
theorem run_sizeOf {t : TypeId} {n : Nat} (h : szOf P t = some n) (w : World) : (sizeOf t).run P w = .ok n w := by
  obtain ⟨i, hi, rfl⟩ := szOf_info h
  simp [sizeOf, typeInfo, hi]
theorem aggOf_und {t : TypeId} {b : Bool} (h : aggOf P t = some b) : ∃ d, P.underlying t = some d ∧ aggD d = b := by
  unfold aggOf at h
  cases hd : P.underlying t with
  | none => rw [hd] at h; cases h
  | some d => rw [hd] at h; injection h with h; exact ⟨d, rfl, h⟩
theorem run_isAgg {t : TypeId} {b : Bool} (h : aggOf P t = some b) (w : World) : (isAgg t).run P w = .ok b w := by
  obtain ⟨d, hd, rfl⟩ := aggOf_und h
  unfold isAgg
  rw [Sem.run_bind, run_underlying hd w]
  cases d <;> simp [aggD]

theorem getD_drop (l : List PV) (k j : Nat) : (l.drop k).getD j .any = l.getD (k + j) .any := by simp [List.getD]
theorem getD_take (l : List PV) (k j : Nat) (h : j < k) : (l.take k).getD j .any = l.getD j .any := by simp [List.getD, List.getElem?_take, h]
theorem addr_add_add (a : Addr) (i j : Nat) : (a.add i).add j = a.add (i + j) := by
  unfold Addr.add
  by_cases hi : i = 0 <;> by_cases hj : j = 0 <;> simp [hi, hj, Nat.add_assoc]
theorem agetD (cs : Array Value) (i : Nat) (h : i < cs.size) : cs[i]? = some (cs.getD i undef) := by simp [Array.getD, h]

theorem run_partV {t : TypeId} {l : List PV} {off : Nat} {p : PV} {cs : Array Value} (w : World) (h : partV P t l off = some p) (hs : cs.size = l.length)
    (hv : ∀ j, j < l.length → VR E (l.getD j .any) (cs.getD j undef)) (h1 : ∀ j, j < l.length → (cs.getD j undef).oneCell' = true) :
    ∃ v, (part t cs off).run P w = .ok v w ∧ VR E p v := by
  unfold partV at h
  split at h
  · rename_i sz ha hz
    split at h
    · rename_i hl
      injection h with h; subst h
      refine ⟨_, by simp [part, run_isAgg ha, run_sizeOf hz]; rfl, ?_⟩
      refine .agg _ _ (by simp; omega) (fun j hj => ?_) fun j hj => ?_
      · have hj' : j < sz := by simp at hj; omega
        rw [getD_take _ _ _ hj', getD_drop]
        have := hv (off + j) (by omega)
        rw [Array.getD_eq_getD_getElem?, Array.getElem?_extract_of_lt (by omega)]
        rwa [Array.getD_eq_getD_getElem?, Array.getElem?_eq_getElem (by omega)] at this
      · have hj' : j < sz := by simp at hj; omega
        have := h1 (off + j) (by omega)
        rw [Array.getD_eq_getD_getElem?, Array.getElem?_extract_of_lt (by omega)]
        rwa [Array.getD_eq_getD_getElem?, Array.getElem?_eq_getElem (by omega)] at this
    · cases h
  · rename_i sz ha hz
    obtain ⟨hl, _⟩ := List.getElem?_eq_some_iff.1 h
    refine ⟨cs.getD off undef, ?_, ?_⟩
    · simp only [part, Sem.run_bind, run_isAgg ha, Result.andThen_ok, Bool.false_eq_true, if_false, agetD cs off (by omega), Sem.run_pure]
    · have := hv off hl
      rwa [getD_of_getElem? h] at this
  · cases h

theorem run_fieldV {t : TypeId} {x p : PV} {f : Nat} {v : Value} (w : World) (h : fieldV P t x f = some p) (hx : VR E x v) : ∃ r, (Instr.field t v f).run P w = .ok r w ∧ VR E p r := by
  unfold fieldV at h
  split at h
  · rename_i fs l hu
    obtain ⟨cs, rfl, h1, h2, h3⟩ := hx.agg_inv
    cases hf : fs[f]? with
    | none => rw [hf] at h; cases h
    | some fd =>
      rw [hf] at h
      obtain ⟨r, hr, hv⟩ := run_partV w h h1 h2 h3
      exact ⟨r, by simp only [Instr.field, Sem.run_bind, run_underlying hu, Result.andThen_ok, hf, asAgg, Sem.run_pure, hr], hv⟩
  · cases h

theorem run_extractV {x p : PV} {i : Nat} {v : Value} (w : World) (h : extractV x i = some p) (hx : VR E x v) : ∃ r, (Instr.extract v i).run P w = .ok r w ∧ VR E p r := by
  unfold extractV at h
  split at h
  · rename_i l
    obtain ⟨cs, rfl, h1, h2⟩ := hx.tup_inv
    obtain ⟨hl, _⟩ := List.getElem?_eq_some_iff.1 h
    have := h2 i hl
    rw [getD_of_getElem? h] at this
    exact ⟨_, by simp only [Instr.extract, agetD cs i (by omega), Sem.run_pure], this⟩
  · cases h

theorem run_asIntOf (w : World) (k : IntKind) (n : Int) : (asIntOf (.int k n)).run P w = .ok (k, n) w := rfl

theorem rp_drop {l : List PV} {a : Addr} {us : Nat → Value} (k : Nat) (hD : E.D a.block) (h1 : ∀ j, j < l.length → E.w.cell? (a.add j) = some (us j))
    (h2 : ∀ j, j < l.length → VR E.bare (l.getD j .any) (us j)) (h3 : ∀ j, j < l.length → (us j).oneCell' = true) : VR E (.rp (l.drop k)) (.pointer (some (a.add k))) := by
  refine .rp _ _ (fun j => us (k + j)) (by rw [add_block]; exact hD) (fun j hj => ?_) (fun j hj => ?_) fun j hj => ?_
  · rw [addr_add_add]; exact h1 _ (by simp at hj; omega)
  · rw [getD_drop]; exact h2 _ (by simp at hj; omega)
  · exact h3 _ (by simp at hj; omega)

theorem pt_add {id : Id} {ver off : Nat} {blk : Blk} {v : Value} (k : Nat) (hl : live E.σ id ver = some blk) (h : VR E (.pt id ver off) v) :
    ∃ a, v = .pointer (some a) ∧ VR E (.pt id ver (off + k)) (.pointer (some (a.add k))) := by
  obtain ⟨hb, hv⟩ := live_spec hl
  obtain ⟨g, o, e, rfl⟩ := h.pt_inv hb hv
  refine ⟨_, rfl, .pt id ver _ _ blk hb (by omega) (fun _ => ⟨g, o, e, ?_⟩) rfl⟩
  rw [add_lit, Nat.add_assoc]

theorem sl_at {id : Id} {ver off n sz : Nat} {blk : Blk} {v : Value} (k : Nat) (hn : n ≠ 0) (hl : live E.σ id ver = some blk) (h : VR E (.sl id ver off n sz) v) :
    ∃ a cap, v = .slice (some a) n cap ∧ VR E (.pt id ver (off + k)) (.pointer (some (a.add k))) := by
  obtain ⟨hb, hv⟩ := live_spec hl
  have hs := h.sl_inv hb hv
  unfold SlAt at hs
  split at hs
  · exact absurd hs.2 hn
  · rename_i g o e
    obtain ⟨cap, rfl, h2, h3⟩ := hs
    refine ⟨_, cap, rfl, .pt id ver _ _ blk hb (by omega) (fun _ => ⟨g, o, e, ?_⟩) rfl⟩
    rw [add_lit, Nat.add_assoc]

theorem run_idxV {t : TypeId} {x p : PV} {k : IntKind} {i : Int} {rs : List Id} {v : Value} (w : World) (h : idxV P t x i E.σ = some (p, rs)) (hx : VR E x v) :
    ∃ r, (Instr.indexAt t v (.int k i)).run P w = .ok r w ∧ VR E p r := by
  unfold idxV at h
  split at h
  · rename_i e l n hu
    cases hz : szOf P e with
    | none => rw [hz] at h; cases h
    | some sz =>
      rw [hz] at h
      simp only [Option.bind_some] at h
      split at h
      · rename_i hb
        injection h with h; injection h with h1 h2; subst h1
        obtain ⟨A, c, rfl, hnc, hc⟩ := hx.rd_inv
        obtain ⟨b1, b2, b3, b4⟩ := hb
        rcases hc with rfl | ⟨a, us, rfl, hD, c1, c2, c3⟩
        · rw [List.length_nil] at b3; have := Nat.mul_pos (show 0 < n by omega) (Nat.pos_of_ne_zero b4); omega
        · refine ⟨_, ?_, rp_drop (i.toNat * sz) hD c1 c2 c3⟩
          simp only [Instr.indexAt, Sem.run_bind, run_asIntOf, Result.andThen_ok, run_underlying hu, Sem.run_pure, if_pos (And.intro b1 b2), run_sizeOf hz]
      · cases h
  · rename_i e id ver off n sz' hu
    cases hz : szOf P e with
    | none => rw [hz] at h; cases h
    | some sz =>
      rw [hz] at h
      simp only [Option.bind_some] at h
      split at h
      · rename_i hb
        obtain ⟨b1, b2, b3⟩ := hb
        cases hl : live E.σ id ver with
        | none => rw [hl] at h; cases h
        | some blk =>
          rw [hl] at h
          injection h with h; injection h with h1 h2; subst h1
          obtain ⟨a, cap, rfl, hp⟩ := sl_at (i.toNat * sz) (by omega) hl hx
          refine ⟨_, ?_, hp⟩
          simp only [Instr.indexAt, Sem.run_bind, run_asIntOf, Result.andThen_ok, run_underlying hu, Sem.run_pure, if_pos (And.intro b1 b2), run_sizeOf hz]
      · cases h
  · rename_i m e l hu
    cases hz : szOf P e with
    | none => rw [hz] at h; cases h
    | some sz =>
      rw [hz] at h
      simp only [Option.bind_some] at h
      split at h
      · rename_i hb
        injection h with h; injection h with h1 h2; subst h1
        obtain ⟨a, us, rfl, hD, c1, c2, c3⟩ := hx.rp_inv
        refine ⟨_, ?_, rp_drop (i.toNat * sz) hD c1 c2 c3⟩
        simp only [Instr.indexAt, Instr.sureAddr, Sem.run_bind, run_asIntOf, Result.andThen_ok, run_underlying hu, Sem.run_pure, if_pos hb, run_sizeOf hz]
      · cases h
  · rename_i m e id ver off hu
    cases hz : szOf P e with
    | none => rw [hz] at h; cases h
    | some sz =>
      rw [hz] at h
      simp only [Option.bind_some] at h
      split at h
      · rename_i hb
        cases hl : live E.σ id ver with
        | none => rw [hl] at h; cases h
        | some blk =>
          rw [hl] at h
          injection h with h; injection h with h1 h2; subst h1
          obtain ⟨a, rfl, hp⟩ := pt_add (i.toNat * sz) hl hx
          refine ⟨_, ?_, hp⟩
          simp only [Instr.indexAt, Instr.sureAddr, Sem.run_bind, run_asIntOf, Result.andThen_ok, run_underlying hu, Sem.run_pure, if_pos hb, run_sizeOf hz]
      · cases h
  · cases h

theorem run_fieldAddrV {s : TypeId} {x p : PV} {f : Nat} {rs : List Id} {v : Value} (w : World) (h : fieldAddrV P s x f E.σ = some (p, rs)) (hx : VR E x v) :
    ∃ r, (Instr.fieldAt s v f).run P w = .ok r w ∧ VR E p r := by
  unfold fieldAddrV at h
  split at h
  · rename_i fs hu
    split at h
    · rename_i fd hf
      split at h
      · rename_i m l hz
        injection h with h; injection h with h1 h2; subst h1
        obtain ⟨a, us, rfl, hD, c1, c2, c3⟩ := hx.rp_inv
        refine ⟨_, ?_, rp_drop fd.offset hD c1 c2 c3⟩
        simp only [Instr.fieldAt, Instr.sureAddr, fieldPlace, Sem.run_bind, Result.andThen_ok, run_underlying hu, hf, Sem.run_pure, run_sizeOf hz, if_neg (Nat.succ_ne_zero m)]
      · rename_i m id ver off hz
        cases hl : live E.σ id ver with
        | none => rw [hl] at h; cases h
        | some blk =>
          rw [hl] at h
          injection h with h; injection h with h1 h2; subst h1
          obtain ⟨a, rfl, hp⟩ := pt_add fd.offset hl hx
          refine ⟨_, ?_, hp⟩
          simp only [Instr.fieldAt, Instr.sureAddr, fieldPlace, Sem.run_bind, Result.andThen_ok, run_underlying hu, hf, Sem.run_pure, run_sizeOf hz, if_neg (Nat.succ_ne_zero m)]
      · cases h
    · cases h
  · cases h

theorem run_indexV {t : TypeId} {x p : PV} {k : IntKind} {i : Int} {v : Value} (w : World) (h : indexV P t x i = some p) (hx : VR E x v) :
    ∃ r, (Instr.index t v (.int k i)).run P w = .ok r w ∧ VR E p r := by
  unfold indexV at h
  split at h
  · rename_i s hu
    split at h
    · rename_i hb
      injection h with h; subst h
      rw [hx.str_inv]
      have hlt : i.toNat < s.size := by omega
      refine ⟨_, ?_, .int _ _⟩
      simp only [Instr.index, Sem.run_bind, run_asIntOf, Result.andThen_ok, run_underlying hu, if_pos hb.1, getElem?_pos s i.toNat hlt, Sem.run_pure, byt, dif_pos hlt]
    · cases h
  · rename_i m e l hu
    cases hz : szOf P e with
    | none => rw [hz] at h; cases h
    | some sz =>
      rw [hz] at h
      simp only [Option.bind_some] at h
      split at h
      · rename_i hb
        obtain ⟨cs, rfl, h1, h2, h3⟩ := hx.agg_inv
        obtain ⟨r, hr, hv⟩ := run_partV w h h1 h2 h3
        exact ⟨r, by simp only [Instr.index, Sem.run_bind, run_asIntOf, Result.andThen_ok, run_underlying hu, if_pos hb, run_sizeOf hz, hr], hv⟩
      · cases h
  · cases h

theorem run_unV {o : UnOp} {x p : PV} {v : Value} (w : World) (h : unV o x = some p) (hx : VR E x v) : ∃ r, (Op.unary o v).run P w = .ok r w ∧ VR E p r := by
  unfold unV at h
  split at h <;> first | (injection h with h; subst h) | (cases h; done)
  · rw [hx.int_inv]; exact ⟨_, rfl, .int _ _⟩
  · rw [hx.int_inv]; exact ⟨_, rfl, .int _ _⟩
  · rw [hx.bool_inv]; exact ⟨_, rfl, .bool _⟩

theorem run_convV {s d : TypeId} {x p : PV} {v : Value} (w : World) (h : convV P s d x = some p) (hx : VR E x v) : ∃ r, (convert s d v).run P w = .ok r w ∧ VR E p r := by
  unfold convV at h
  split at h
  · rename_i hs hd
    injection h with h; subst h
    rw [hx.int_inv]
    refine ⟨_, ?_, .int _ _⟩
    simp only [convert, Sem.run_bind, run_underlying hs, run_underlying hd, Result.andThen_ok, Conv.intToInt, Sem.run_pure]
  · rename_i hs hd
    injection h with h; subst h
    rw [hx.str_inv]
    refine ⟨_, ?_, .str _⟩
    simp only [convert, Sem.run_bind, run_underlying hs, run_underlying hd, Result.andThen_ok, Sem.run_pure]
  · cases h

theorem run_max (w : World) : ∀ (l : List PV) (vs : List Value) (k : IntKind) (x : Int) (p : PV), foldV mx2 k x l = some p → vs.length = l.length → (∀ j, j < l.length → VR E (l.getD j .any) (vs.getD j undef)) →
    ∃ r, (vs.foldlM Builtin.max2 (.int k x)).run P w = .ok r w ∧ VR E p r
  | [], vs, k, x, p, h, hl, _ => by
    obtain rfl : vs = [] := List.eq_nil_of_length_eq_zero hl
    injection h with h; subst h
    exact ⟨_, rfl, .int _ _⟩
  | q :: l, vs, k, x, p, h, hl, hv => by
    cases vs with
    | nil => cases hl
    | cons u vs =>
      cases q <;> simp only [foldV] at h <;> try (cases h; done)
      have hu := (hv 0 (by simp)).int_inv
      simp at hu; subst hu
      obtain ⟨r, hr, hp⟩ := run_max w l vs k _ p h (by simpa using hl) (fun j hj => by have := hv (j + 1) (by simp; omega); simpa using this)
      refine ⟨r, ?_, hp⟩
      simp only [List.foldlM_cons, Sem.run_bind, Builtin.max2, Sem.run_pure, Result.andThen_ok]
      exact hr
theorem run_min (w : World) : ∀ (l : List PV) (vs : List Value) (k : IntKind) (x : Int) (p : PV), foldV mn2 k x l = some p → vs.length = l.length → (∀ j, j < l.length → VR E (l.getD j .any) (vs.getD j undef)) →
    ∃ r, (vs.foldlM Builtin.min2 (.int k x)).run P w = .ok r w ∧ VR E p r
  | [], vs, k, x, p, h, hl, _ => by
    obtain rfl : vs = [] := List.eq_nil_of_length_eq_zero hl
    injection h with h; subst h
    exact ⟨_, rfl, .int _ _⟩
  | q :: l, vs, k, x, p, h, hl, hv => by
    cases vs with
    | nil => cases hl
    | cons u vs =>
      cases q <;> simp only [foldV] at h <;> try (cases h; done)
      have hu := (hv 0 (by simp)).int_inv
      simp at hu; subst hu
      obtain ⟨r, hr, hp⟩ := run_min w l vs k _ p h (by simpa using hl) (fun j hj => by have := hv (j + 1) (by simp; omega); simpa using this)
      refine ⟨r, ?_, hp⟩
      simp only [List.foldlM_cons, Sem.run_bind, Builtin.min2, Sem.run_pure, Result.andThen_ok]
      exact hr

theorem run_lenV {t u : TypeId} {x p : PV} {rs : List Id} {v : Value} (w : World) (h : lenV P t x E.σ = some (p, rs)) (hx : VR E x v) : ∃ r, (Builtin.len_ #[t] u #[v]).run P w = .ok r w ∧ VR E p r := by
  unfold lenV at h
  split at h
  · rename_i s hu
    injection h with h; injection h with h1 h2; subst h1
    rw [hx.str_inv]
    exact ⟨_, by simp [Builtin.len_, run_underlying hu]; rfl, .int _ _⟩
  · rename_i e l n hu
    injection h with h; injection h with h1 h2; subst h1
    obtain ⟨A, c, rfl, _⟩ := hx.rd_inv
    exact ⟨_, by simp [Builtin.len_, run_underlying hu]; rfl, .int _ _⟩
  · rename_i e hu
    injection h with h; injection h with h1 h2; subst h1
    rw [hx.nilS_inv]
    exact ⟨_, by simp [Builtin.len_, run_underlying hu]; rfl, .int _ _⟩
  · rename_i e id ver off n sz hu
    cases hl : live E.σ id ver with
    | none => rw [hl] at h; cases h
    | some blk =>
      rw [hl] at h
      injection h with h; injection h with h1 h2; subst h1
      obtain ⟨hb, hv⟩ := live_spec hl
      have hs := hx.sl_inv hb hv
      have : ∃ A cap, v = .slice A n cap := by
        unfold SlAt at hs
        split at hs
        · exact ⟨none, 0, by rw [hs.1, hs.2]⟩
        · obtain ⟨cap, e, _⟩ := hs; exact ⟨_, cap, e⟩
      obtain ⟨A, cap, rfl⟩ := this
      exact ⟨_, by simp [Builtin.len_, run_underlying hu]; rfl, .int _ _⟩
  · rename_i m e hu
    injection h with h; injection h with h1 h2; subst h1
    exact ⟨_, by simp [Builtin.len_, run_underlying hu]; rfl, .int _ _⟩
  · cases h

/-- What the abstract bounds say of the machine's. -/
def OptVR (E : Env) : Option PV → Option Value → Prop
  | none, none => True
  | some p, some v => VR E p v
  | _, _ => False

theorem run_sliceBound (w : World) (k : IntKind) (i : Int) (y : Nat) (c : BoundsCode) (h : 0 ≤ i ∧ i ≤ y) : (Instr.sliceBound (.int k i) y c).run P w = .ok i.toNat w := by
  simp only [Instr.sliceBound, Sem.run_bind, run_asIntOf, Result.andThen_ok, if_pos h, Sem.run_pure]

theorem run_bounds {b : Bool} {len cap capA : Nat} {lo hi mx : Option PV} {vl vh vm : Option Value} {x y : Nat} (w : World) (h : boundsV len capA lo hi mx = some (x, y)) (hl : OptVR E lo vl) (hh : OptVR E hi vh) (hm : OptVR E mx vm)
    (hcap : capA ≤ cap) (hlen : len ≤ cap) : ∃ m, (Instr.sliceBounds b len cap vl vh vm).run P w = .ok (x, y, m) w ∧ x ≤ y ∧ y ≤ m ∧ m ≤ cap ∧ (y ≤ capA ∨ y ≤ len) := by
  unfold boundsV at h
  split at h
  · cases vm with
    | some _ => exact hm.elim
    | none =>
      split at h
      · rename_i kh hv
        cases vh with
        | none => exact hh.elim
        | some vh =>
          obtain rfl := hh.int_inv
          split at h
          · rename_i hb
            split at h
            · rename_i kl lv
              cases vl with
              | none => exact hl.elim
              | some vl =>
                obtain rfl := hl.int_inv
                split at h
                · rename_i hb2
                  injection h with h; injection h with e1 e2; subst e1; subst e2
                  refine ⟨cap, ?_, by omega, by omega, by omega, by omega⟩
                  simp only [Instr.sliceBounds, Sem.run_bind, Sem.run_pure, Result.andThen_ok, run_sliceBound w kh hv cap _ (by omega), run_sliceBound w kl lv hv.toNat _ (by omega)]
                · cases h
            · cases vl with
              | some _ => exact hl.elim
              | none =>
                injection h with h; injection h with e1 e2; subst e1; subst e2
                refine ⟨cap, ?_, by omega, by omega, by omega, by omega⟩
                simp only [Instr.sliceBounds, Sem.run_bind, Sem.run_pure, Result.andThen_ok, run_sliceBound w kh hv cap _ (by omega)]
            · cases h
          · cases h
      · cases vh with
        | some _ => exact hh.elim
        | none =>
          split at h
          · rename_i kl lv
            cases vl with
            | none => exact hl.elim
            | some vl =>
              obtain rfl := hl.int_inv
              split at h
              · rename_i hb2
                injection h with h; injection h with e1 e2; subst e1; subst e2
                refine ⟨cap, ?_, by omega, by omega, by omega, by omega⟩
                simp only [Instr.sliceBounds, Sem.run_bind, Sem.run_pure, Result.andThen_ok, run_sliceBound w kl lv len _ (by omega)]
              · cases h
          · cases vl with
            | some _ => exact hl.elim
            | none =>
              injection h with h; injection h with e1 e2; subst e1; subst e2
              refine ⟨cap, ?_, by omega, by omega, by omega, by omega⟩
              simp only [Instr.sliceBounds, Sem.run_bind, Sem.run_pure, Result.andThen_ok]
          · cases h
      · cases h
  · rename_i km mv
    cases vm with
    | none => exact hm.elim
    | some vm =>
      obtain rfl := hm.int_inv
      split at h
      · rename_i kh hv
        cases vh with
        | none => exact hh.elim
        | some vh =>
          obtain rfl := hh.int_inv
          split at h
          · rename_i hb
            split at h
            · rename_i kl lv
              cases vl with
              | none => exact hl.elim
              | some vl =>
                obtain rfl := hl.int_inv
                split at h
                · rename_i hb2
                  injection h with h; injection h with e1 e2; subst e1; subst e2
                  refine ⟨mv.toNat, ?_, by omega, by omega, by omega, by omega⟩
                  simp only [Instr.sliceBounds, Sem.run_bind, Sem.run_pure, Result.andThen_ok, run_sliceBound w km mv cap _ (by omega), run_sliceBound w kh hv mv.toNat _ (by omega), run_sliceBound w kl lv hv.toNat _ (by omega)]
                · cases h
            · cases vl with
              | some _ => exact hl.elim
              | none =>
                injection h with h; injection h with e1 e2; subst e1; subst e2
                refine ⟨mv.toNat, ?_, by omega, by omega, by omega, by omega⟩
                simp only [Instr.sliceBounds, Sem.run_bind, Sem.run_pure, Result.andThen_ok, run_sliceBound w km mv cap _ (by omega), run_sliceBound w kh hv mv.toNat _ (by omega)]
            · cases h
          · cases h
      · cases h
  · cases h

theorem run_sliceV {t : TypeId} {x p : PV} {rs : List Id} {v : Value} {lo hi mx : Option PV} {vl vh vm : Option Value} (w : World) (h : sliceV P t x lo hi mx E.σ = some (p, rs)) (hx : VR E x v)
    (hl : OptVR E lo vl) (hh : OptVR E hi vh) (hm : OptVR E mx vm)
    (hblk : ∀ id blk g o, E.σ id = some blk → E.β id = some (g, o) → Room E.w g (o + blk.cells.length)) :
    ∃ r, (Instr.sliceAt t v vl vh vm).run P w = .ok r w ∧ VR E p r := by
  unfold sliceV at h
  split at h
  · rename_i s hu
    rw [hx.str_inv]
    split at h
    · cases h
    · rename_i hmx
      cases mx with
      | some _ => simp at hmx
      | none =>
        cases vm with
        | some _ => exact hm.elim
        | none =>
          cases hb : boundsV s.size s.size lo hi none with
          | none => rw [hb] at h; cases h
          | some ab =>
            obtain ⟨a, b⟩ := ab
            rw [hb] at h
            injection h with h; injection h with e1 e2; subst e1
            obtain ⟨m, hr, _⟩ := run_bounds (P := P) (b := false) (cap := s.size) w hb hl hh (vm := none) trivial (Nat.le_refl _) (Nat.le_refl _)
            refine ⟨_, ?_, .str _⟩
            simp only [Instr.sliceAt, Instr.slice, Sem.run_bind, run_underlying hu, Result.andThen_ok, Option.isSome_none, Bool.false_eq_true, if_false, hr, Sem.run_pure]
  · rename_i e l n hu
    cases hz : szOf P e with
    | none => rw [hz] at h; cases h
    | some sz =>
      rw [hz] at h
      cases hb : boundsV n n lo hi mx with
      | none => simp [hb] at h
      | some ab =>
        obtain ⟨a, b⟩ := ab
        simp only [hb, Option.bind_some] at h
        split at h
        · rename_i hlen
          injection h with h; injection h with e1 e2; subst e1
          obtain ⟨A, c, rfl, hnc, hc⟩ := hx.rd_inv
          obtain ⟨m, hr, h1, h2, h3, h4⟩ := run_bounds (P := P) (b := true) (cap := c) w hb hl hh hm hnc hnc
          refine ⟨.slice (if m = a then A else A.map (·.add (a * sz))) (b - a) (m - a), ?_, ?_⟩
          · simp only [Instr.sliceAt, Instr.slice, Sem.run_bind, run_underlying hu, Result.andThen_ok, hr, run_sizeOf hz, Sem.run_pure]
          · rcases hc with rfl | ⟨ad, us, rfl, hD, c1, c2, c3⟩
            · simp only [List.drop_nil, List.take_nil]; exact .rd0 _ _ _ (by omega)
            · by_cases hma : m = a
              · have : b - a = 0 := by omega
                rw [this, Nat.zero_mul, List.take_zero]
                exact .rd0 _ _ _ (by omega)
              · rw [if_neg hma]
                have hlt : ∀ j, j < ((l.drop (a * sz)).take ((b - a) * sz)).length → a * sz + j < l.length ∧ j < (b - a) * sz := by
                  intro j hj; simp at hj; omega
                refine .rd _ _ _ _ (fun j => us (a * sz + j)) (by omega) (by rw [add_block]; exact hD) (fun j hj => ?_) (fun j hj => ?_) fun j hj => ?_
                · rw [addr_add_add]; exact c1 _ (hlt j hj).1
                · rw [getD_take _ _ _ (hlt j hj).2, getD_drop]; exact c2 _ (hlt j hj).1
                · exact c3 _ (hlt j hj).1
        · cases h
  · rename_i e id ver off n sz' hu
    cases hz : szOf P e with
    | none => rw [hz] at h; cases h
    | some sz =>
      rw [hz] at h
      simp only [Option.bind_some] at h
      split at h
      · rename_i hsz
        subst hsz
        cases hb : boundsV n n lo hi mx with
        | none => simp [hb] at h
        | some ab =>
          obtain ⟨a, b⟩ := ab
          simp only [hb, Option.bind_some] at h
          split at h
          · rename_i hab
            cases hlv : live E.σ id ver with
            | none => rw [hlv] at h; cases h
            | some blk =>
              rw [hlv] at h
              injection h with h; injection h with e1 e2; subst e1
              obtain ⟨hbk, hv⟩ := live_spec hlv
              have hs := hx.sl_inv hbk hv
              unfold SlAt at hs
              split at hs
              · rename_i hβ
                obtain ⟨rfl, hn⟩ := hs
                subst hn
                obtain ⟨m, hr, h1, h2, h3, h4⟩ := run_bounds (P := P) (b := true) (cap := 0) w hb hl hh hm (Nat.le_refl _) (Nat.le_refl _)
                have ha : a = 0 := by omega
                have hb0 : b = 0 := by omega
                have hm0 : m = 0 := by omega
                subst ha; subst hb0; subst hm0
                refine ⟨.slice none 0 0, ?_, .sl id ver _ _ _ _ blk hbk (by omega) (fun _ => ?_) rfl⟩
                · simp only [Instr.sliceAt, Instr.slice, Sem.run_bind, run_underlying hu, Result.andThen_ok, hr, run_sizeOf hz, Sem.run_pure, if_true, Nat.sub_self]
                · rw [hβ]; exact ⟨rfl, rfl⟩
              · rename_i g o hβ
                obtain ⟨cap, rfl, k2, k3, k4⟩ := hs
                obtain ⟨m, hr, h1, h2, h3, h4⟩ := run_bounds (P := P) (b := true) (cap := cap) w hb hl hh hm k2 k2
                refine ⟨.slice (if m = a then some ⟨g, o + off, none⟩ else (some ⟨g, o + off, none⟩ : Option Addr).map (·.add (a * sz))) (b - a) (m - a), ?_, .sl id ver _ _ _ _ blk hbk (by omega) (fun _ => ?_) rfl⟩
                · simp only [Instr.sliceAt, Instr.slice, Sem.run_bind, run_underlying hu, Result.andThen_ok, hr, run_sizeOf hz, Sem.run_pure]
                · rw [hβ]
                  refine ⟨m - a, ?_, by omega, by omega, ?_⟩
                  · congr 1
                    by_cases hma : m = a
                    · have : a = 0 := by omega
                      subst this
                      simp [hma]
                    · rw [if_neg hma, Option.map_some, add_lit, Nat.add_assoc]
                  · obtain ⟨cc, t', fz, q1, q2⟩ := k4
                    refine ⟨cc, t', fz, q1, Nat.le_trans ?_ q2⟩
                    have : (m - a) * sz + a * sz ≤ cap * sz := by rw [← Nat.add_mul]; exact Nat.mul_le_mul_right _ (by omega)
                    omega
          · cases h
      · cases h
  · rename_i e hu
    cases hb : boundsV 0 0 lo hi mx with
    | none => cases hz : szOf P e <;> simp [hz, hb] at h
    | some ab =>
      obtain ⟨a, b⟩ := ab
      rw [hb] at h
      rw [hx.nilS_inv]
      obtain ⟨m, hr, h1, h2, h3, h4⟩ := run_bounds (P := P) (b := true) (cap := 0) w hb hl hh hm (Nat.le_refl _) (Nat.le_refl _)
      have ha : a = 0 := by omega
      have hb0 : b = 0 := by omega
      have hm0 : m = 0 := by omega
      subst ha; subst hb0; subst hm0
      cases hz : szOf P e with
      | none => rw [hz] at h; cases h
      | some sz =>
        rw [hz] at h
        injection h with h; injection h with e1 e2; subst e1
        refine ⟨.slice none 0 0, ?_, .nilS⟩
        simp only [Instr.sliceAt, Instr.slice, Sem.run_bind, run_underlying hu, Result.andThen_ok, hr, run_sizeOf hz, Sem.run_pure, if_true, Nat.sub_self]
  · rename_i mm e id ver off hu
    cases hz : szOf P e with
    | none => rw [hz] at h; cases h
    | some sz =>
      rw [hz] at h
      cases hb : boundsV mm mm lo hi mx with
      | none => simp [hb] at h
      | some ab =>
        obtain ⟨a, b⟩ := ab
        simp only [hb, Option.bind_some] at h
        cases hlv : live E.σ id ver with
        | none => rw [hlv] at h; cases h
        | some blk =>
          rw [hlv] at h
          simp only [Option.bind_some] at h
          split at h
          · rename_i hc
            obtain ⟨k1, k2, hab⟩ := hc
            injection h with h; injection h with e1 e2; subst e1
            obtain ⟨hbk, hv⟩ := live_spec hlv
            obtain ⟨g, o, hβ, rfl⟩ := hx.pt_inv hbk hv
            obtain ⟨m, hr, h1, h2, h3, h4⟩ := run_bounds (P := P) (b := false) (cap := mm) w hb hl hh hm (Nat.le_refl _) (Nat.le_refl _)
            refine ⟨.slice (some (if m = a then ⟨g, o + off, none⟩ else (⟨g, o + off, none⟩ : Addr).add (a * sz))) (b - a) (m - a), ?_, .sl id ver _ _ _ _ blk hbk (by omega) (fun _ => ?_) rfl⟩
            · simp only [Instr.sliceAt, Instr.sureAddr, Sem.run_bind, run_underlying hu, Result.andThen_ok, hr, run_sizeOf hz, Sem.run_pure]
            · rw [hβ]
              refine ⟨m - a, ?_, by omega, by simp only [maxLen]; omega, ?_⟩
              · congr 2
                by_cases hma : m = a
                · have : a = 0 := by omega
                  subst this
                  simp [hma]
                · rw [if_neg hma, add_lit, Nat.add_assoc]
              · obtain ⟨cc, t', fz, q1, q2⟩ := hblk id blk g o hbk hβ
                refine ⟨cc, t', fz, q1, Nat.le_trans ?_ q2⟩
                have : (m - a) * sz + a * sz ≤ mm * sz := by rw [← Nat.add_mul]; exact Nat.mul_le_mul_right _ (by omega)
                omega
          · cases h
  · cases h

/-! ### build -/
theorem fold_set (off : Nat) : ∀ (l : List Value) (k : Nat) (cs : Array Value), off + k + l.length ≤ cs.size →
    ((l.zipIdx k).foldl (fun cs x => cs.setIfInBounds (off + x.2) x.1) cs).size = cs.size ∧
    ∀ i, ((l.zipIdx k).foldl (fun cs x => cs.setIfInBounds (off + x.2) x.1) cs).getD i undef = if off + k ≤ i ∧ i < off + k + l.length then l.getD (i - (off + k)) undef else cs.getD i undef
  | [], k, cs, _ => by simp; intro i h1 h2; omega
  | v :: l, k, cs, h => by
    simp only [List.length_cons] at h
    obtain ⟨h1, h2⟩ := fold_set off l (k + 1) (cs.setIfInBounds (off + k) v) (by simp; omega)
    simp only [List.zipIdx_cons, List.foldl_cons]
    refine ⟨by rw [h1]; simp, fun i => ?_⟩
    rw [h2 i, getD_setIfInBounds _ _ _ _ _ (by omega)]
    simp only [List.length_cons]
    by_cases e : i = off + k
    · subst e
      rw [if_neg (by omega), if_pos rfl, if_pos (by omega)]
      simp
    · by_cases hi : off + (k + 1) ≤ i ∧ i < off + (k + 1) + l.length
      · rw [if_pos hi, if_pos (by omega)]
        have : i - (off + k) = (i - (off + (k + 1))) + 1 := by omega
        rw [this]
        simp [List.getD]
      · rw [if_neg hi, if_neg e, if_neg (by omega)]

def Cells (E : Env) (l : List PV) (cs : Array Value) : Prop :=
  cs.size = l.length ∧ (∀ j, j < l.length → VR E (l.getD j .any) (cs.getD j undef)) ∧ (∀ j, j < l.length → (cs.getD j undef).oneCell' = true)

theorem fold_zip (f : Array Value → Value × Nat → Array Value) (xs : Array Value) (cs : Array Value) : xs.zipIdx.foldl f cs = (xs.toList.zipIdx).foldl f cs := by
  rw [← Array.foldl_toList, Array.toList_zipIdx]

theorem fill_run {place : Nat → Option (Nat × Nat)} : ∀ (ps : List (Nat × PV)) (vs : List (Nat × Value)) (l L : List PV) (cs : Array Value), fillP place l ps = some L → Cells E l cs →
    vs.length = ps.length → (∀ j, j < ps.length → (vs.getD j (0, undef)).1 = (ps.getD j (0, .any)).1 ∧ VR E (ps.getD j (0, .any)).2 (vs.getD j (0, undef)).2) →
    ∃ cs', Instr.fill place cs vs = some cs' ∧ Cells E L cs'
  | [], vs, l, L, cs, h, hc, hl, _ => by
    obtain rfl : vs = [] := List.eq_nil_of_length_eq_zero hl
    injection h with h; subst h
    exact ⟨cs, rfl, hc⟩
  | (i, p) :: ps, vs, l, L, cs, h, hc, hl, hv => by
    cases vs with
    | nil => cases hl
    | cons v vs =>
      obtain ⟨i', v⟩ := v
      obtain ⟨e, hp⟩ := hv 0 (by simp)
      simp at e hp
      subst e
      simp only [fillP] at h
      split at h
      · cases h
      · rename_i off size hpl
        split at h
        · rename_i hcond
          simp at hcond
          obtain ⟨⟨c1, c2⟩, c3⟩ := hcond
          obtain ⟨v1, v2, v3⟩ := hp.cells c1
          obtain ⟨k1, k2, k3⟩ := hc
          obtain ⟨f1, f2⟩ := fold_set off v.cells.toList 0 cs (by simp; omega)
          have hcs : Cells E (l.take off ++ cellsOf p ++ l.drop (off + size)) ((v.cells.toList.zipIdx).foldl (fun cs x => cs.setIfInBounds (off + x.2) x.1) cs) := by
            have hget : ∀ j, (l.take off ++ cellsOf p ++ l.drop (off + size)).getD j .any = if off ≤ j ∧ j < off + size then (cellsOf p).getD (j - off) .any else l.getD j .any := by
              intro j
              simp only [List.getD, List.getElem?_append, List.length_take, List.length_append, List.getElem?_drop, List.getElem?_take]
              by_cases h1 : j < off
              · rw [if_pos (by omega), if_pos (by omega), if_pos h1, if_neg (by omega)]
              · by_cases h2 : j < off + size
                · rw [if_pos (by omega), if_neg (by omega), if_pos (by omega)]
                  congr 2
                  omega
                · rw [if_neg (by omega), if_neg (by omega)]
                  congr 2
                  omega
            have hlen : (l.take off ++ cellsOf p ++ l.drop (off + size)).length = l.length := by simp; omega
            refine ⟨by rw [f1, hlen]; exact k1, fun j hj => ?_, fun j hj => ?_⟩
            · rw [hlen] at hj
              rw [hget, f2]
              by_cases h1 : off ≤ j ∧ j < off + size
              · rw [if_pos h1, if_pos (by simp; omega)]
                have := v2 (j - off) (by omega)
                simpa [Array.getD_eq_getD_getElem?, List.getD] using this
              · rw [if_neg h1, if_neg (by simp; omega)]
                exact k2 j hj
            · rw [hlen] at hj
              rw [f2]
              by_cases h1 : off ≤ j ∧ j < off + size
              · rw [if_pos (by simp; omega)]
                have := v3 (j - off) (by omega)
                simpa [Array.getD_eq_getD_getElem?, List.getD] using this
              · rw [if_neg (by simp; omega)]
                exact k3 j hj
          obtain ⟨cs', e1, e2⟩ := fill_run ps vs _ L _ h hcs (by simpa using hl) (fun j hj => by have := hv (j + 1) (by simp; omega); simpa using this)
          refine ⟨cs', ?_, e2⟩
          simp only [Instr.fill, hpl]
          rw [if_neg (by simp; omega), fold_zip]
          exact e1
        · cases h

theorem zeroOf_spec {t : TypeId} {z : List PV} (h : zeroOf P t = some z) (hz : z.all leafB = true) (w : World) : ∃ v, (zeroValue t).run P w = .ok v w ∧ Cells E z v.cells := by
  unfold zeroOf at h
  cases hi : P.info? t with
  | none => rw [hi] at h; cases h
  | some i =>
    rw [hi] at h
    cases hv : i.zero with
    | none => simp [hv] at h
    | some v =>
      simp [hv] at h
      refine ⟨v, by simp [zeroValue, typeInfo, hi, hv], ?_⟩
      subst h
      have hvr : ∀ j, j < (v.cells.toList.map ofConst).length → VR E ((v.cells.toList.map ofConst).getD j .any) (v.cells.getD j undef) := by
        intro j hj
        simp at hj
        have : (v.cells.toList.map ofConst).getD j .any = ofConst (v.cells.getD j undef) := by simp [List.getD, Array.getD, hj]
        rw [this]
        exact VR_const E _
      refine ⟨by simp, hvr, fun j hj => ?_⟩
      refine (hvr j hj).leaf_one ?_
      simp only [List.all_eq_true] at hz
      have hm := hz ((v.cells.toList.map ofConst).getD j .any) (by
        simp only [List.getD, List.getElem?_eq_getElem hj, Option.getD_some]
        exact List.getElem_mem hj)
      exact hm

theorem run_places (w : World) : ∀ (fs : List Field), fs.all (fun f => (szOf P f.type).isSome) = true →
    (fs.mapM (m := Sem) fun f => do pure (f.offset, ← sizeOf f.type)).run P w = .ok (fs.map fun f => (f.offset, (szOf P f.type).getD 0)) w
  | [], _ => rfl
  | f :: fs, h => by
    simp only [List.all_cons, Bool.and_eq_true] at h
    obtain ⟨n, hn⟩ := Option.isSome_iff_exists.1 h.1
    have ih := run_places w fs h.2
    simp only [List.mapM_cons, Sem.run_bind, run_sizeOf hn, Result.andThen_ok, Sem.run_pure, ih, List.map_cons, hn, Option.getD_some]

theorem getD_allParts {f : Nat → PV} {a : Act} (h : ∀ t, VR E (f t) (a.tmps.getD t undef)) : ∀ (ps : List (Nat × Operand)),
    (allParts (pv f) ps).length = ps.length ∧ ∀ j, j < ps.length → ((ps.map fun x => (x.1, a.eval x.2)).getD j (0, undef)).1 = ((allParts (pv f) ps).getD j (0, .any)).1 ∧ VR E ((allParts (pv f) ps).getD j (0, .any)).2 ((ps.map fun x => (x.1, a.eval x.2)).getD j (0, undef)).2
  | [] => ⟨rfl, by simp⟩
  | (i, x) :: r => by
    obtain ⟨h1, h2⟩ := getD_allParts h r
    refine ⟨by simp [allParts, h1], fun j hj => ?_⟩
    cases j with
    | zero => simp [allParts]; exact VR_pv h x
    | succ j => have := h2 j (by simpa using hj); simpa [allParts] using this

theorem run_buildV {t : TypeId} {ps : List (Nat × PV)} {vs : Array (Nat × Value)} {p : PV} (w : World) (h : buildV P t ps = some p) (hl : vs.toList.length = ps.length)
    (hv : ∀ j, j < ps.length → (vs.toList.getD j (0, undef)).1 = (ps.getD j (0, .any)).1 ∧ VR E (ps.getD j (0, .any)).2 (vs.toList.getD j (0, undef)).2) :
    ∃ r, (Instr.build t vs).run P w = .ok r w ∧ VR E p r := by
  unfold buildV at h
  split at h
  · rename_i fs z hu hz
    split at h
    · rename_i hc
      simp only [Bool.and_eq_true] at hc
      obtain ⟨v0, hr0, hc0⟩ := zeroOf_spec (E := E) hz hc.1 w
      cases hf : fillP (placeS P fs) z ps with
      | none => rw [hf] at h; cases h
      | some L =>
        rw [hf] at h; injection h with h; subst h
        have hpl : (fun i => ((fs.toList.map fun f => (f.offset, (szOf P f.type).getD 0)).toArray)[i]?) = placeS P fs := by
          funext i
          simp only [placeS]
          cases hfi : fs[i]? with
          | none => simp [hfi]
          | some f =>
            simp [hfi]
            have hm : (szOf P f.type).isSome = true := by
              have := List.all_eq_true.1 hc.2 f (by simpa using Array.mem_of_getElem? hfi)
              exact this
            obtain ⟨n, hn⟩ := Option.isSome_iff_exists.1 hm
            simp [hn]
        obtain ⟨cs', e1, e2⟩ := fill_run ps vs.toList z L v0.cells hf hc0 hl hv
        refine ⟨.agg cs', ?_, .agg _ _ e2.1 e2.2.1 e2.2.2⟩
        have hm : (fs.mapM (m := Sem) fun f => do pure (f.offset, ← sizeOf f.type)).run P w = .ok ((fs.toList.map fun f => (f.offset, (szOf P f.type).getD 0)).toArray) w := by
          rw [Array.mapM_eq_mapM_toList, Sem.run_map, run_places w _ hc.2]
          rfl
        simp only [Instr.build, Sem.run_bind, hr0, Result.andThen_ok, run_underlying hu, hm, hpl, e1, Sem.run_pure]
    · cases h
  · rename_i m e z hu hz
    split at h
    · rename_i hc
      obtain ⟨v0, hr0, hc0⟩ := zeroOf_spec (E := E) hz hc w
      cases hs : szOf P e with
      | none => rw [hs] at h; cases h
      | some sz =>
        rw [hs] at h
        simp only [Option.bind_some] at h
        cases hf : fillP (fun i => some (i * sz, sz)) z ps with
        | none => rw [hf] at h; cases h
        | some L =>
          rw [hf] at h; injection h with h; subst h
          obtain ⟨cs', e1, e2⟩ := fill_run ps vs.toList z L v0.cells hf hc0 hl hv
          refine ⟨.agg cs', ?_, .agg _ _ e2.1 e2.2.1 e2.2.2⟩
          simp only [Instr.build, Sem.run_bind, hr0, Result.andThen_ok, run_underlying hu, run_sizeOf hs, e1, Sem.run_pure]
    · cases h
  · cases h
end
end Go.Proofs.YtabofinagjdljaaE
