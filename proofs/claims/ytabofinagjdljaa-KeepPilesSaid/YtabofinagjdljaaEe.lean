/- One theorem for all operations that only make a value; and what they hang on. -/
import Derived.Test.YtabofinagjdljaaEd
set_option linter.unusedVariables false
set_option linter.unusedSimpArgs false
namespace Go.Proofs.YtabofinagjdljaaE
open Go.RowKit

section
variable {P : Program} {E : Env}

theorem optVR {f : Nat → PV} {a : Act} (h : ∀ t, VR E (f t) (a.tmps.getD t undef)) (x : Option Operand) : OptVR E (x.map (pv f)) (x.map a.eval) := by
  cases x with
  | none => trivial
  | some x => exact VR_pv h x

theorem listVR {f : Nat → PV} {a : Act} (h : ∀ t, VR E (f t) (a.tmps.getD t undef)) (l : List Operand) : ∀ j, j < (l.map (pv f)).length → VR E ((l.map (pv f)).getD j .any) ((l.map a.eval).getD j undef) := by
  intro j hj
  simp at hj
  simp only [List.getD, List.getElem?_map, List.getElem?_eq_getElem hj, Option.map_some, Option.getD_some]
  exact VR_pv h _

theorem arrVR {f : Nat → PV} {a : Act} (h : ∀ t, VR E (f t) (a.tmps.getD t undef)) (l : Array Operand) : ∀ j, j < (l.toList.map (pv f)).length → VR E ((l.toList.map (pv f)).getD j .any) ((l.map a.eval).getD j undef) := by
  intro j hj
  have := listVR h l.toList j hj
  rw [← Array.toList_map] at this
  simpa [Array.getD_eq_getD_getElem?, List.getD] using this

theorem run_builtin {o : Oper} {a : Act} {w w' : World} {b : Builtin} {args : Array Operand} {at_ : Array TypeId} {v : Value} (ho : o.op = .call { callee := .builtin b, args := args, argTypes := at_ })
    (h : (builtin b at_ o.type (args.map fun | .const _ => true | _ => false) (args.map a.eval)).run P w = .ok (.value v) w') : (execOp a.eval o).run P w = .ok (.value v) w' := by
  unfold execOp
  simp only [ho, resolve, Sem.run_bind, Sem.run_pure, Result.andThen_ok, invoke]
  exact h

theorem run_evalV {o : Oper} {f : Nat → PV} {a : Act} (w : World) {p : PV} {rs : List Id} (h : evalV P o.op (pv f) E.σ = some (p, rs)) (hf : ∀ t, VR E (f t) (a.tmps.getD t undef))
    (hblk : ∀ id blk g o, E.σ id = some blk → E.β id = some (g, o) → Room E.w g (o + blk.cells.length)) :
    ∃ v, (execOp a.eval o).run P w = .ok (.value v) w ∧ VR E p v := by
  unfold evalV at h
  split at h
  · rename_i x ho
    injection h with h; injection h with h1 h2; subst h1
    exact ⟨_, by simp only [execOp, ho, Sem.run_pure], VR_pv hf x⟩
  · rename_i x ho
    injection h with h; injection h with h1 h2; subst h1
    exact ⟨_, by simp only [execOp, ho, Sem.run_pure], VR_pv hf x⟩
  · rename_i c x y ho
    split at h
    · rename_i t hc
      injection h with h; injection h with h1 h2; subst h1
      have hcv := VR_pv hf c
      rw [hc] at hcv
      have hcv := hcv.bool_inv
      refine ⟨if t then a.eval x else a.eval y, by simp only [execOp, ho, hcv, asBool, Sem.run_bind, Sem.run_pure, Result.andThen_ok], ?_⟩
      cases t
      · exact VR_pv hf y
      · exact VR_pv hf x
    · cases h
  · rename_i x ho
    have hx := VR_pv hf x
    split at h
    · rename_i id ver off hp
      cases hl : live E.σ id ver with
      | none => rw [hl] at h; cases h
      | some blk =>
        rw [hl] at h; injection h with h; injection h with h1 h2; subst h1
        rw [hp] at hx
        obtain ⟨ad, hv, hp2⟩ := pt_add 0 hl hx
        exact ⟨a.eval x, by simp only [execOp, ho, hv, Sem.run_pure], hx⟩
    · rename_i l hp
      injection h with h; injection h with h1 h2; subst h1
      rw [hp] at hx
      obtain ⟨ad, us, hv, _⟩ := hx.rp_inv
      exact ⟨a.eval x, by simp only [execOp, ho, hv, Sem.run_pure], hx⟩
    · cases h
  · rename_i op t x y yt ho
    cases hb : binV P op t (pv f x) (pv f y) with
    | none => rw [hb] at h; cases h
    | some q =>
      rw [hb] at h; injection h with h; injection h with h1 h2; subst h1
      obtain ⟨r, hr, hv⟩ := run_binV (w := w) (X := x) (Y := y) hb (VR_pv hf x) (VR_pv hf y)
      exact ⟨r, by simp only [execOp, ho]; rw [Sem.run_bind, hr]; rfl, hv⟩
  · rename_i op t x ho
    cases hb : unV op (pv f x) with
    | none => rw [hb] at h; cases h
    | some q =>
      rw [hb] at h; injection h with h; injection h with h1 h2; subst h1
      obtain ⟨r, hr, hv⟩ := run_unV (P := P) w hb (VR_pv hf x)
      exact ⟨r, by simp only [execOp, ho, Sem.run_bind, hr, Sem.run_pure, Result.andThen_ok], hv⟩
  · rename_i s d x ho
    cases hb : convV P s d (pv f x) with
    | none => rw [hb] at h; cases h
    | some q =>
      rw [hb] at h; injection h with h; injection h with h1 h2; subst h1
      obtain ⟨r, hr, hv⟩ := run_convV w hb (VR_pv hf x)
      exact ⟨r, by simp only [execOp, ho, Sem.run_bind, hr, Sem.run_pure, Result.andThen_ok], hv⟩
  · rename_i t ps ho
    cases hb : buildV P t (allParts (pv f) ps.toList) with
    | none => rw [hb] at h; cases h
    | some q =>
      rw [hb] at h; injection h with h; injection h with h1 h2; subst h1
      obtain ⟨k1, k2⟩ := getD_allParts hf ps.toList
      obtain ⟨r, hr, hv⟩ := run_buildV (vs := ps.map fun (i, x) => (i, a.eval x)) w hb (by simp [k1]) (fun j hj => by have := k2 j (by omega); simpa using this)
      exact ⟨r, by simp only [execOp, ho, Sem.run_bind, hr, Sem.run_pure, Result.andThen_ok], hv⟩
  · rename_i t x fi ho
    cases hb : fieldV P t (pv f x) fi with
    | none => rw [hb] at h; cases h
    | some q =>
      rw [hb] at h; injection h with h; injection h with h1 h2; subst h1
      obtain ⟨r, hr, hv⟩ := run_fieldV w hb (VR_pv hf x)
      exact ⟨r, by simp only [execOp, ho, Sem.run_bind, hr, Sem.run_pure, Result.andThen_ok], hv⟩
  · rename_i x i ho
    cases hb : extractV (pv f x) i with
    | none => rw [hb] at h; cases h
    | some q =>
      rw [hb] at h; injection h with h; injection h with h1 h2; subst h1
      obtain ⟨r, hr, hv⟩ := run_extractV (P := P) w hb (VR_pv hf x)
      exact ⟨r, by simp only [execOp, ho, Sem.run_bind, hr, Sem.run_pure, Result.andThen_ok], hv⟩
  · rename_i s x fi ho
    obtain ⟨r, hr, hv⟩ := run_fieldAddrV w h (VR_pv hf x)
    exact ⟨r, by simp only [execOp, ho, Sem.run_bind, hr, Sem.run_pure, Result.andThen_ok], hv⟩
  · rename_i t x i ho
    split at h
    · rename_i k n hi
      have hiv := VR_pv hf i
      rw [hi] at hiv
      obtain ⟨r, hr, hv⟩ := run_idxV (k := k) w h (VR_pv hf x)
      exact ⟨r, by simp only [execOp, ho, hiv.int_inv, Sem.run_bind, hr, Sem.run_pure, Result.andThen_ok], hv⟩
    · cases h
  · rename_i t x i ho
    split at h
    · rename_i k n hi
      have hiv := VR_pv hf i
      rw [hi] at hiv
      cases hb : indexV P t (pv f x) n with
      | none => rw [hb] at h; cases h
      | some q =>
        rw [hb] at h; injection h with h; injection h with h1 h2; subst h1
        obtain ⟨r, hr, hv⟩ := run_indexV (k := k) w hb (VR_pv hf x)
        exact ⟨r, by simp only [execOp, ho, hiv.int_inv, Sem.run_bind, hr, Sem.run_pure, Result.andThen_ok], hv⟩
    · cases h
  · rename_i t x lo hi mx ho
    obtain ⟨r, hr, hv⟩ := run_sliceV w h (VR_pv hf x) (optVR hf lo) (optVR hf hi) (optVR hf mx) hblk
    exact ⟨r, by simp only [execOp, ho, Sem.run_bind, hr, Sem.run_pure, Result.andThen_ok], hv⟩
  · rename_i fn fi ca ho
    injection h with h; injection h with h1 h2; subst h1
    refine ⟨.func (.func fn) (fi.map a.eval) (ca.map a.eval), by simp only [execOp, ho, Instr.makeFunc, Sem.run_bind, Sem.run_pure, Result.andThen_ok], ?_⟩
    refine .fn _ _ _ _ _ (by simp) (by simp) (fun j hj => arrVR hf fi j hj) (fun j hj => arrVR hf ca j hj)
  · rename_i args at_ ho
    split at h
    · rename_i x t hx ht
      obtain ⟨r, hr, hv⟩ := run_lenV (u := o.type) w h (VR_pv hf x)
      refine ⟨r, run_builtin ho ?_, hv⟩
      obtain rfl : args = #[x] := by cases args; simpa using hx
      obtain rfl : at_ = #[t] := by cases at_; simpa using ht
      simp only [builtin, Sem.run_bind, List.map_toArray, List.map_cons, List.map_nil, hr, Result.andThen_ok, Sem.run_pure]
    · cases h
  · rename_i args at_ ho
    split at h
    · rename_i k x r0 hx
      cases hb : foldV mx2 k x r0 with
      | none => rw [hb] at h; cases h
      | some q =>
        rw [hb] at h; injection h with h; injection h with h1 h2; subst h1
        have hall := listVR hf args.toList
        rw [hx] at hall
        cases hvs : args.toList.map a.eval with
        | nil => have e1 := congrArg List.length hx; have e2 := congrArg List.length hvs; simp only [List.length_map, List.length_cons, List.length_nil] at e1 e2; omega
        | cons v vs =>
          rw [hvs] at hall
          have h0 := (hall 0 (by simp)).int_inv
          simp at h0; subst h0
          obtain ⟨r, hr, hv⟩ := run_max (P := P) (E := E) w r0 vs k x q hb (by have e1 := congrArg List.length hx; have e2 := congrArg List.length hvs; simp only [List.length_map, List.length_cons] at e1 e2; omega) (fun j hj => by have := hall (j + 1) (by simp; omega); simpa using this)
          refine ⟨r, run_builtin ho ?_, hv⟩
          simp only [builtin, Sem.run_bind, Builtin.max_, Array.toList_map, hvs, hr, Result.andThen_ok, Sem.run_pure]
    · cases h
  · rename_i args at_ ho
    split at h
    · rename_i k x r0 hx
      cases hb : foldV mn2 k x r0 with
      | none => rw [hb] at h; cases h
      | some q =>
        rw [hb] at h; injection h with h; injection h with h1 h2; subst h1
        have hall := listVR hf args.toList
        rw [hx] at hall
        cases hvs : args.toList.map a.eval with
        | nil => have e1 := congrArg List.length hx; have e2 := congrArg List.length hvs; simp only [List.length_map, List.length_cons, List.length_nil] at e1 e2; omega
        | cons v vs =>
          rw [hvs] at hall
          have h0 := (hall 0 (by simp)).int_inv
          simp at h0; subst h0
          obtain ⟨r, hr, hv⟩ := run_min (P := P) (E := E) w r0 vs k x q hb (by have e1 := congrArg List.length hx; have e2 := congrArg List.length hvs; simp only [List.length_map, List.length_cons] at e1 e2; omega) (fun j hj => by have := hall (j + 1) (by simp; omega); simpa using this)
          refine ⟨r, run_builtin ho ?_, hv⟩
          simp only [builtin, Sem.run_bind, Builtin.min_, Array.toList_map, hvs, hr, Result.andThen_ok, Sem.run_pure]
    · cases h
  · cases h

/-! ### what it hangs on -/
theorem live_congr {σ σ' : Id → Option Blk} {id : Id} {ver : Nat} (h : σ' id = σ id) : live σ' id ver = live σ id ver := by simp [live, h]

theorem live_map_congr {α : Type} {σ σ' : Id → Option Blk} {id : Id} {ver : Nat} {x : α} {p : PV} {rs : List Id} {g : PV} (h : ((live σ id ver).map fun _ => (g, [id])) = some (p, rs)) (hs : ∀ id ∈ rs, σ' id = σ id) :
    ((live σ' id ver).map fun _ => (g, [id])) = some (p, rs) := by
  have : rs = [id] := by
    cases hl : live σ id ver with
    | none => rw [hl] at h; cases h
    | some b => rw [hl] at h; injection h with h; injection h with h1 h2; exact h2.symm
  rw [live_congr (hs id (by simp [this]))]
  exact h

theorem idxV_congr {t : TypeId} {x p : PV} {i : Int} {σ σ' : Id → Option Blk} {rs : List Id} (h : idxV P t x i σ = some (p, rs)) (hs : ∀ id ∈ rs, σ' id = σ id) : idxV P t x i σ' = some (p, rs) := by
  unfold idxV at *
  split at h
  · exact h
  · cases hz : szOf P _ with
    | none => rw [hz] at h; cases h
    | some sz =>
      rw [hz] at h
      simp only [Option.bind_some] at *
      split at h
      · rename_i hc; rw [if_pos hc]; exact live_map_congr (x := ()) h hs
      · cases h
  · exact h
  · cases hz : szOf P _ with
    | none => rw [hz] at h; cases h
    | some sz =>
      rw [hz] at h
      simp only [Option.bind_some] at *
      split at h
      · rename_i hc; rw [if_pos hc]; exact live_map_congr (x := ()) h hs
      · cases h
  · cases h

theorem fieldAddrV_congr {t : TypeId} {x p : PV} {i : Nat} {σ σ' : Id → Option Blk} {rs : List Id} (h : fieldAddrV P t x i σ = some (p, rs)) (hs : ∀ id ∈ rs, σ' id = σ id) : fieldAddrV P t x i σ' = some (p, rs) := by
  unfold fieldAddrV at *
  split at h
  · split at h
    · split at h
      · exact h
      · exact live_map_congr (x := ()) h hs
      · cases h
    · cases h
  · cases h

theorem lenV_congr {t : TypeId} {x p : PV} {σ σ' : Id → Option Blk} {rs : List Id} (h : lenV P t x σ = some (p, rs)) (hs : ∀ id ∈ rs, σ' id = σ id) : lenV P t x σ' = some (p, rs) := by
  unfold lenV at *
  split at h
  · exact h
  · exact h
  · exact h
  · exact live_map_congr (x := ()) h hs
  · exact h
  · cases h

theorem sliceV_congr {t : TypeId} {x p : PV} {lo hi mx : Option PV} {σ σ' : Id → Option Blk} {rs : List Id} (h : sliceV P t x lo hi mx σ = some (p, rs)) (hs : ∀ id ∈ rs, σ' id = σ id) : sliceV P t x lo hi mx σ' = some (p, rs) := by
  unfold sliceV at *
  split at h
  · exact h
  · exact h
  · cases hz : szOf P _ with
    | none => rw [hz] at h; cases h
    | some sz =>
      rw [hz] at h
      simp only [Option.bind_some] at *
      split at h
      · rename_i hc
        rw [if_pos hc]
        cases hb : boundsV _ _ lo hi mx with
        | none => rw [hb] at h; cases h
        | some ab =>
          rw [hb] at h
          simp only [Option.bind_some] at *
          split at h
          · rename_i hc2; rw [if_pos hc2]; exact live_map_congr (x := ()) h hs
          · cases h
      · cases h
  · exact h
  · rename_i m e id ver off hu
    cases hz : szOf P _ with
    | none => rw [hz] at h; cases h
    | some sz =>
      rw [hz] at h
      simp only [Option.bind_some] at *
      cases hb : boundsV _ _ lo hi mx with
      | none => rw [hb] at h; cases h
      | some ab =>
        rw [hb] at h
        simp only [Option.bind_some] at *
        cases hl : live σ id ver with
        | none => rw [hl] at h; cases h
        | some blk =>
          rw [hl] at h
          simp only [Option.bind_some] at h
          split at h
          · rename_i hc
            injection h with h; injection h with h1 h2
            rw [live_congr (hs id (by simp [← h2])), hl]
            simp only [Option.bind_some, if_pos hc, h1, h2]
          · cases h
  · cases h

theorem pv_congr {f f' : Nat → PV} {o : Op} (h : ∀ t, Operand.tmp t ∈ o.operands → f' t = f t) : ∀ x ∈ o.operands, pv f' x = pv f x := by
  intro x hx
  cases x with
  | tmp t => exact h t hx
  | _ => rfl

theorem allParts_congr {ρ ρ' : Operand → PV} : ∀ (ps : List (Nat × Operand)), (∀ x ∈ ps.map (·.2), ρ' x = ρ x) → allParts ρ' ps = allParts ρ ps
  | [], _ => rfl
  | (i, x) :: r, h => by
    simp only [allParts]
    rw [h x (by simp), allParts_congr r (fun y hy => h y (by simp at hy ⊢; exact .inr hy))]

theorem evalV_congr {op : Op} {ρ ρ' : Operand → PV} {σ σ' : Id → Option Blk} {p : PV} {rs : List Id} (h : evalV P op ρ σ = some (p, rs)) (hρ : ∀ x ∈ op.operands, ρ' x = ρ x) (hs : ∀ id ∈ rs, σ' id = σ id) :
    evalV P op ρ' σ' = some (p, rs) := by
  have om : ∀ (x : Option Operand), (∀ y ∈ x.toArray, ρ' y = ρ y) → x.map ρ' = x.map ρ := by
    intro x hx
    cases x with
    | none => rfl
    | some y => simp only [Option.map_some]; rw [hx y (by simp)]
  have lm : ∀ (x : Array Operand), (∀ y ∈ x, ρ' y = ρ y) → x.toList.map ρ' = x.toList.map ρ := fun x hx => List.map_congr_left fun y hy => hx y (by simpa using hy)
  unfold evalV at h
  split at h <;> (try simp only [Op.operands, Call.operands] at hρ) <;> simp only [evalV]
  · rw [hρ _ (by simp)]; exact h
  · rw [hρ _ (by simp)]; exact h
  · rename_i c x y
    simp only [hρ c (by simp), hρ x (by simp), hρ y (by simp)]; exact h
  · rename_i x
    simp only [hρ x (by simp)]
    split at h
    · exact live_map_congr (x := ()) h hs
    · exact h
    · cases h
  · rename_i o t x y _
    simp only [hρ x (by simp), hρ y (by simp)]; exact h
  · rename_i o t x
    simp only [hρ x (by simp)]; exact h
  · rename_i s d x
    simp only [hρ x (by simp)]; exact h
  · rename_i t ps
    rw [allParts_congr ps.toList (fun x hx => hρ x (by simpa using hx))]; exact h
  · rename_i t x i
    simp only [hρ x (by simp)]; exact h
  · rename_i x i
    simp only [hρ x (by simp)]; exact h
  · rename_i s x i
    simp only [hρ x (by simp)]; exact fieldAddrV_congr h hs
  · rename_i t x i
    simp only [hρ x (by simp), hρ i (by simp)]
    split at h
    · exact idxV_congr h hs
    · cases h
  · rename_i t x i
    simp only [hρ x (by simp), hρ i (by simp)]
    split at h
    · exact h
    · cases h
  · rename_i t x lo hi mx
    rw [hρ x (by simp), om lo (fun y hy => hρ y (by simp at hy ⊢; simp [hy])), om hi (fun y hy => hρ y (by simp at hy ⊢; simp [hy])), om mx (fun y hy => hρ y (by simp at hy ⊢; simp [hy]))]
    exact sliceV_congr h hs
  · rename_i fn fi ca
    rw [lm fi (fun y hy => hρ y (by simp [hy])), lm ca (fun y hy => hρ y (by simp [hy]))]; exact h
  · rename_i args at_
    split at h
    · rename_i x t hx ht
      have hx' : x ∈ args := by
        have : x ∈ args.toList := by rw [hx]; simp
        simpa using this
      simp only [hρ x (by simp [hx'])]
      exact lenV_congr h hs
    · cases h
  · rename_i args at_
    rw [lm args (fun y hy => hρ y (by simp [hy]))]; exact h
  · rename_i args at_
    rw [lm args (fun y hy => hρ y (by simp [hy]))]; exact h
  · cases h
end
end Go.Proofs.YtabofinagjdljaaE
