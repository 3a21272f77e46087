/- Regions whose order is drawn: the text's order tells what every order does, if what is not ordered does not touch. -/
import Derived.Test.YtabofinagjdljaaEl
set_option linter.unusedVariables false
set_option linter.unusedSimpArgs false
namespace Go.Proofs.YtabofinagjdljaaE
open Go.RowKit

theorem range_split (i n : Nat) (h : i ≤ n) : List.range n = List.range i ++ List.range' i (n - i) := by
  rw [List.range_eq_range', List.range_eq_range']
  have := List.range'_append (s := 0) (m := i) (n := n - i) (step := 1)
  simp only [Nat.one_mul, Nat.zero_add] at this
  rw [this]; congr 1; omega
theorem range_split' (i n : Nat) (h : i < n) : List.range n = List.range i ++ i :: List.range' (i + 1) (n - (i + 1)) := by
  rw [range_split i n (by omega), show n - i = (n - (i + 1)) + 1 by omega, List.range'_succ]

def ancB (ops : Array Oper) : Nat → Nat → Nat → Bool
  | 0, _, _ => false
  | n + 1, i, j =>
    match ops[j]? with
    | some o => o.after.toList.any fun e => Region.binds .any e && (e.on == i || ancB ops n i e.on)
    | none => false

def edgesB (ops : Array Oper) : Bool :=
  (List.range ops.size).all fun i => match ops[i]? with
    | some o => o.after.toList.all fun e => !Region.binds .any e || decide (e.on < i)
    | none => true

def wids (e : Eff) : List Id := e.wr.map (·.1)

structure Compat (ops : Array Oper) (oi oj : Oper) (ei ej : Eff) : Prop where
  apart : oi.apart ops oj = true
  w1 : ∀ id ∈ wids ei, id ∉ ej.reads
  w2 : ∀ id ∈ wids ej, id ∉ ei.reads
  w3 : ∀ id ∈ wids ei, id ∉ wids ej
  b1 : ei.bump = true → oi.dst ≠ none
  b2 : ej.bump = true → oj.dst ≠ none

theorem apart_symm {ops : Array Oper} {x y : Oper} (h : x.apart ops y = true) : y.apart ops x = true := by
  unfold Oper.apart at *
  cases hx : x.dst with
  | none => cases hy : y.dst with
    | none => rfl
    | some e => simp [hx, hy] at h ⊢; exact h
  | some d => cases hy : y.dst with
    | none => simp [hx, hy] at h ⊢; exact h
    | some e =>
      simp [hx, hy] at h ⊢
      exact ⟨⟨h.2, fun e => h.1.2 e.symm⟩, h.1.1⟩

theorem Compat.symm {ops : Array Oper} {oi oj : Oper} {ei ej : Eff} (h : Compat ops oi oj ei ej) : Compat ops oj oi ej ei :=
  ⟨apart_symm h.apart, h.w2, h.w1, fun id h1 h2 => h.w3 id h2 h1, h.b2, h.b1⟩

theorem wrs_not {σ : Id → Option Blk} : ∀ {l : List (Id × Blk)} {id : Id}, id ∉ l.map (·.1) → wrs σ l id = σ id
  | [], _, _ => rfl
  | (x, b) :: l, id, h => by
    simp at h
    show updI (wrs σ l) x (some b) id = σ id
    rw [updI_other _ _ _ _ h.1]
    exact wrs_not (by simpa using h.2)

theorem wrs_mem {σ τ : Id → Option Blk} : ∀ {l : List (Id × Blk)} {id : Id}, id ∈ l.map (·.1) → wrs σ l id = wrs τ l id
  | [], _, h => by simp at h
  | (x, b) :: l, id, h => by
    show updI (wrs σ l) x (some b) id = updI (wrs τ l) x (some b) id
    by_cases e : id = x
    · subst e; simp
    · rw [updI_other _ _ _ _ e, updI_other _ _ _ _ e]
      refine wrs_mem ?_
      simp at h
      rcases h with h | h
      · exact absurd h e
      · simpa using h

theorem St.ext {s t : St} (h1 : s.frame = t.frame) (h2 : s.store = t.store) (h3 : s.gens = t.gens) : s = t := by
  cases s; cases t; simp_all

/-- Do two states agree in what an operation looks at? -/
def Ag (ops : Array Oper) (o : Oper) (e : Eff) (s s' : St) : Prop :=
  (∀ t ∈ o.looksAt ops, s'.frame t = s.frame t) ∧ (∀ id ∈ e.reads, s'.store id = s.store id) ∧ (∀ d, o.dst = some d → s'.gens d = s.gens d)

theorem Ag.refl (ops : Array Oper) (o : Oper) (e : Eff) (s : St) : Ag ops o e s s := ⟨fun _ _ => rfl, fun _ _ => rfl, fun _ _ => rfl⟩
theorem Ag.trans {ops : Array Oper} {o : Oper} {e : Eff} {a b c : St} (h : Ag ops o e a b) (k : Ag ops o e b c) : Ag ops o e a c :=
  ⟨fun t ht => (k.1 t ht).trans (h.1 t ht), fun t ht => (k.2.1 t ht).trans (h.2.1 t ht), fun t ht => (k.2.2 t ht).trans (h.2.2 t ht)⟩
theorem Ag.symm {ops : Array Oper} {o : Oper} {e : Eff} {a b : St} (h : Ag ops o e a b) : Ag ops o e b a :=
  ⟨fun t ht => (h.1 t ht).symm, fun t ht => (h.2.1 t ht).symm, fun t ht => (h.2.2 t ht).symm⟩

theorem frame_eff (s : St) (d : Option Nat) (e : Eff) (t : Nat) : (s.eff d e).frame t = if d = some t then e.val else s.frame t := by
  cases d with
  | none => simp [St.eff, St.put]
  | some d =>
    simp only [St.eff, St.put, Option.some.injEq]
    by_cases h : t = d
    · subst h; simp
    · rw [upd_other _ _ _ _ h, if_neg (fun e => h e.symm)]

theorem Ag.of_compat {ops : Array Oper} {oi oj : Oper} {ei ej : Eff} (h : Compat ops oi oj ei ej) (s : St) : Ag ops oi ei s (s.eff oj.dst ej) := by
  obtain ⟨a1, a2, a3⟩ := Oper.apart_spec h.apart
  refine ⟨fun t ht => ?_, fun id hid => ?_, fun d hd => ?_⟩
  · rw [frame_eff, if_neg]
    intro e
    exact a3 t e ht
  · exact wrs_not (fun hm => h.w2 id hm hid)
  · simp only [St.eff]
    split
    · rename_i hb
      cases hj : oj.dst with
      | none => exact absurd hj (h.b2 hb)
      | some d' =>
        simp only [Option.getD_some]
        rw [upd_other]
        intro e
        subst e
        exact a2 d hd hj
    · rfl

theorem Ag.step {ops : Array Oper} {oi : Oper} {ei : Eff} {s s' : St} (h : Ag ops oi ei s s') (d : Option Nat) (e : Eff) : Ag ops oi ei (s.eff d e) (s'.eff d e) := by
  refine ⟨fun t ht => ?_, fun id hid => ?_, fun t ht => ?_⟩
  · rw [frame_eff, frame_eff, h.1 t ht]
  · simp only [St.eff]
    by_cases hm : id ∈ e.wr.map (·.1)
    · exact wrs_mem hm
    · rw [wrs_not hm, wrs_not hm]; exact h.2.1 id hid
  · simp only [St.eff]
    split
    · by_cases e : t = d.getD 0
      · subst e; simp [h.2.2 _ ht]
      · rw [upd_other _ _ _ _ e, upd_other _ _ _ _ e]; exact h.2.2 t ht
    · exact h.2.2 t ht

theorem eff_comm {ops : Array Oper} {oi oj : Oper} {ei ej : Eff} (h : Compat ops oi oj ei ej) (s : St) : (s.eff oi.dst ei).eff oj.dst ej = (s.eff oj.dst ej).eff oi.dst ei := by
  obtain ⟨a1, a2, a3⟩ := Oper.apart_spec h.apart
  refine St.ext ?_ ?_ ?_
  · funext t
    simp only [frame_eff]
    by_cases h1 : oj.dst = some t
    · have h2 : oi.dst ≠ some t := fun e => a2 t e h1
      rw [if_pos h1, if_neg h2, if_pos h1]
    · rw [if_neg h1, if_neg h1]
  · funext id
    simp only [St.eff]
    by_cases h1 : id ∈ ei.wr.map (·.1)
    · have h2 : id ∉ ej.wr.map (·.1) := h.w3 id h1
      rw [wrs_not h2]
      exact wrs_mem h1
    · rw [wrs_not (σ := wrs s.store ej.wr) h1]
      by_cases h2 : id ∈ ej.wr.map (·.1)
      · exact wrs_mem h2
      · rw [wrs_not h2, wrs_not h2, wrs_not h1]
  · simp only [St.eff]
    by_cases hi : ei.bump = true <;> by_cases hj : ej.bump = true
    · simp only [hi, hj, if_true]
      cases hdi : oi.dst with
      | none => exact absurd hdi (h.b1 hi)
      | some di =>
        cases hdj : oj.dst with
        | none => exact absurd hdj (h.b2 hj)
        | some dj =>
          have hne : di ≠ dj := fun e => a2 di hdi (e ▸ hdj)
          simp only [Option.getD_some]
          funext t
          by_cases e1 : t = dj
          · subst e1
            rw [upd_same, upd_other _ _ _ _ hne.symm, upd_other _ _ _ _ hne.symm, upd_same]
          · rw [upd_other _ _ _ _ e1]
            by_cases e2 : t = di
            · subst e2
              rw [upd_same, upd_same, upd_other _ _ _ _ hne]
            · rw [upd_other _ _ _ _ e2, upd_other _ _ _ _ e2, upd_other _ _ _ _ e1]
    · simp [hi, hj]
    · simp [hi, hj]
    · simp [hi, hj]

theorem Step.congr {P : Program} {ops : Array Oper} {o : Oper} {s s' : St} {e : Eff} (h : Step P ops o s e) (hA : Ag ops o e s s') : Step P ops o s' e := by
  have hw : wantedA ops o s'.frame = wantedA ops o s.frame := by
    unfold wantedA
    cases hg : o.guard with
    | none => rfl
    | some jw =>
      obtain ⟨j, want⟩ := jw
      simp only
      cases hd : (ops[j]?).bind (·.dst) with
      | none => rfl
      | some d =>
        simp only
        rw [hA.1 d (by simp [Oper.looksAt, hg, hd])]
  rcases h with ⟨h1, h2⟩ | ⟨h1, h2⟩
  · refine .inl ⟨hw.trans h1, ⟨fun s'' k1 k2 k3 => h2.sim s'' (fun x hx => ?_) (fun id hid => (k2 id hid).trans (hA.2.1 id hid)) (fun d hd => (k3 d hd).trans (hA.2.2 d hd))⟩⟩
    rw [k1 x hx]
    cases x with
    | tmp t =>
      refine hA.1 t ?_
      simp only [Oper.looksAt, List.mem_append, List.mem_filterMap]
      exact .inl ⟨.tmp t, by simpa using hx, rfl⟩
    | _ => rfl
  · exact .inr ⟨hw.trans h1, h2⟩

section
variable {P : Program} {ops : Array Oper} {es : List Eff}

def appI (ops : Array Oper) (es : List Eff) (s : St) (i : Nat) : St :=
  match ops[i]? with
  | some o => s.eff o.dst (es.getD i noEff)
  | none => s

theorem runs_at : ∀ {l : List Oper} {s : St} {fs : List Eff} {s' : St}, Runs P ops l s fs s' → ∀ k s0, (∀ j, l[j]? = ops[k + j]?) → (∀ j, fs[j]? = es[k + j]?) → s = (List.range k).foldl (appI ops es) s0 →
    (∀ j o, l[j]? = some o → Step P ops o ((List.range (k + j)).foldl (appI ops es) s0) (es.getD (k + j) noEff)) ∧ s' = (List.range (k + l.length)).foldl (appI ops es) s0
  | _, _, _, _, .nil s, k, s0, _, _, hs => ⟨by simp, by simpa using hs⟩
  | _, _, _, _, .cons o rest s e fs s' h1 h2, k, s0, hl, hf, hs => by
    have ho : ops[k]? = some o := by have := hl 0; simpa using this.symm
    have he : es[k]? = some e := by have := hf 0; simpa using this.symm
    have hnext : s.eff o.dst e = (List.range (k + 1)).foldl (appI ops es) s0 := by
      rw [List.range_succ, List.foldl_append, ← hs]
      simp [appI, ho, he, List.getD]
    obtain ⟨r1, r2⟩ := runs_at h2 (k + 1) s0 (fun j => by have := hl (j + 1); rw [show k + 1 + j = k + (j + 1) by omega]; simpa using this) (fun j => by have := hf (j + 1); rw [show k + 1 + j = k + (j + 1) by omega]; simpa using this) hnext
    refine ⟨fun j o' hj => ?_, ?_⟩
    · cases j with
      | zero =>
        simp at hj
        subst hj
        rw [Nat.add_zero, ← hs]
        simpa [List.getD, he] using h1
      | succ j =>
        have := r1 j o' (by simpa using hj)
        rwa [show k + 1 + j = k + (j + 1) by omega] at this
    · rw [r2, List.length_cons, show k + 1 + rest.length = k + (rest.length + 1) by omega]

/-- No order between them. -/
def unord (ops : Array Oper) (i j : Nat) : Prop := ancB ops ops.size i j = false ∧ ancB ops ops.size j i = false ∧ i ≠ j

def closed (ops : Array Oper) (listed : Array Bool) : Prop := ∀ j o, ops[j]? = some o → listed.getD j false = true → ∀ e ∈ o.after, Region.binds .any e = true → listed.getD e.on false = true

theorem anc_listed {listed : Array Bool} (hc : closed ops listed) : ∀ (n i j : Nat) (o : Oper), ops[j]? = some o → (∀ e ∈ o.after, Region.binds .any e = true → listed.getD e.on false = true) → ancB ops n i j = true → listed.getD i false = true
  | 0, _, _, _, _, _, h => by simp [ancB] at h
  | n + 1, i, j, o, ho, hd, h => by
    simp only [ancB, ho, List.any_eq_true, Bool.and_eq_true, Bool.or_eq_true, beq_iff_eq] at h
    obtain ⟨e, he, hb, h⟩ := h
    have hl := hd e (by simpa using he) hb
    rcases h with h | h
    · rw [← h]; exact hl
    · cases ho' : ops[e.on]? with
      | none =>
        cases n with
        | zero => simp [ancB] at h
        | succ n => simp [ancB, ho'] at h
      | some o' => exact anc_listed hc n i e.on o' ho' (hc e.on o' ho' hl) h

theorem foldl_ag {o : Oper} {e : Eff} (keep : Nat → Bool) : ∀ (L : List Nat) (s s' : St), Ag ops o e s s' → (∀ j ∈ L, keep j = false → ∀ oj, ops[j]? = some oj → Compat ops o oj e (es.getD j noEff)) →
    Ag ops o e ((L.filter keep).foldl (appI ops es) s) (L.foldl (appI ops es) s')
  | [], s, s', h, _ => h
  | j :: L, s, s', h, hk => by
    by_cases hj : keep j = true
    · rw [List.filter_cons_of_pos hj, List.foldl_cons, List.foldl_cons]
      refine foldl_ag keep L _ _ ?_ (fun i hi => hk i (by simp [hi]))
      unfold appI
      split
      · exact h.step _ _
      · exact h
    · rw [List.filter_cons_of_neg hj, List.foldl_cons]
      refine foldl_ag keep L _ _ ?_ (fun i hi => hk i (by simp [hi]))
      unfold appI
      split
      · rename_i oj hoj
        exact h.trans (Ag.of_compat (hk j (by simp) (by simpa using hj) oj hoj) s')
      · exact h

theorem foldl_comm {i : Nat} {oi : Oper} (hi : ops[i]? = some oi) : ∀ (L : List Nat) (s : St), (∀ j ∈ L, ∀ oj, ops[j]? = some oj → Compat ops oi oj (es.getD i noEff) (es.getD j noEff)) →
    L.foldl (appI ops es) (appI ops es s i) = appI ops es (L.foldl (appI ops es) s) i
  | [], s, _ => rfl
  | j :: L, s, h => by
    rw [List.foldl_cons, List.foldl_cons, ← foldl_comm hi L _ (fun k hk => h k (by simp [hk]))]
    congr 1
    unfold appI
    simp only [hi]
    cases hj : ops[j]? with
    | none => rfl
    | some oj => exact eff_comm (h j (by simp) oj hj) s

theorem ready_spec {listed : Array Bool} {i : Nat} (hs : listed.size = ops.size) (h : i ∈ Region.ready .any ops listed) : ∃ o, ops[i]? = some o ∧ i < ops.size ∧ listed.getD i false = false ∧ ∀ e ∈ o.after, Region.binds .any e = true → listed.getD e.on false = true := by
  unfold Region.ready at h
  simp only [List.mem_filter, List.mem_range, Bool.and_eq_true, Bool.not_eq_true'] at h
  obtain ⟨h1, h2, h3⟩ := h
  cases ho : ops[i]? with
  | none => rw [ho] at h3; simp at h3
  | some o =>
    rw [ho] at h3
    refine ⟨o, rfl, h1, ?_, fun e he hb => ?_⟩
    · rw [Array.getD_eq_getD_getElem?] at h2 ⊢
      rw [Array.getElem?_eq_getElem (by omega)] at h2 ⊢
      exact h2
    · simp only [Option.map_some, Option.getD_some] at h3
      have h4 := (Array.all_eq_true'.1 h3) e he
      simpa [hb] using h4

theorem ready_nil (he : edgesB ops = true) {listed : Array Bool} (hs : listed.size = ops.size) (h : Region.ready .any ops listed = []) : ∀ i, i < ops.size → listed.getD i false = true := by
  intro i
  induction i using Nat.strongRecOn with
  | _ i ih =>
    intro hi
    rcases Bool.eq_false_or_eq_true (listed.getD i false) with hl | hl
    · exact hl
    · exfalso
      have : i ∈ Region.ready .any ops listed := by
        unfold Region.ready
        simp only [List.mem_filter, List.mem_range, Bool.and_eq_true, Bool.not_eq_true']
        refine ⟨hi, ?_, ?_⟩
        · rw [Array.getD_eq_getD_getElem?] at hl ⊢
          rw [Array.getElem?_eq_getElem (by omega)] at hl ⊢
          exact hl
        · rw [Array.getElem?_eq_getElem hi]
          simp only [Option.map_some, Option.getD_some]
          refine Array.all_eq_true'.2 fun e hem => ?_
          unfold edgesB at he
          have h1 := List.all_eq_true.1 he i (by simpa using hi)
          rw [Array.getElem?_eq_getElem hi] at h1
          have h2 := List.all_eq_true.1 h1 e (by simpa using hem)
          simp only [Bool.or_eq_true, Bool.not_eq_true', decide_eq_true_eq] at h2 ⊢
          rcases h2 with h2 | h2
          · exact .inl h2
          · exact .inr (ih e.on h2 (by omega))
      rw [h] at this
      cases this

theorem any_order {s0 s' : St} {nt : Nat} {Q : Exit → St → Prop} (he : edgesB ops = true)
    (hstep : ∀ j o, ops[j]? = some o → Step P ops o ((List.range j).foldl (appI ops es) s0) (es.getD j noEff)) (hend : s' = (List.range ops.size).foldl (appI ops es) s0)
    (hcomp : ∀ i j oi oj, ops[i]? = some oi → ops[j]? = some oj → unord ops i j → Compat ops oi oj (es.getD i noEff) (es.getD j noEff)) (hd : ∀ o ∈ ops.toList, ∀ d, o.dst = some d → d < nt) (hq : Q .normal s') (cx : Ctx) (hn : cx.nt = nt) :
    ∀ (fuel : Nat) (listed : Array Bool) (a : Act) (w : World), listed.size = ops.size → closed ops listed → ((List.range ops.size).filter fun i => !listed.getD i false).length = fuel →
      Rel cx (((List.range ops.size).filter fun i => listed.getD i false).foldl (appI ops es) s0) a w → wpAny P .any ops (fun e a' w' => ∃ s', Q e s' ∧ Rel cx s' a' w') fuel listed a w := by
  have hall : ∀ (listed : Array Bool) (a : Act) (w : World), (∀ i, i < ops.size → listed.getD i false = true) → Rel cx (((List.range ops.size).filter fun i => listed.getD i false).foldl (appI ops es) s0) a w → ∃ s', Q .normal s' ∧ Rel cx s' a w := by
    intro listed a w hl hr
    have : (List.range ops.size).filter (fun i => listed.getD i false) = List.range ops.size := by
      rw [List.filter_eq_self]
      intro i hi
      exact hl i (by simpa using hi)
    rw [this, ← hend] at hr
    exact ⟨s', hq, hr⟩
  intro fuel
  induction fuel with
  | zero =>
    intro listed a w hs hc hf hr
    have hl : ∀ i, i < ops.size → listed.getD i false = true := by
      intro i hi
      have h0 := List.eq_nil_of_length_eq_zero hf
      rw [List.filter_eq_nil_iff] at h0
      have := h0 i (by simpa using hi)
      simpa using this
    refine ⟨?_, hall listed a w hl hr⟩
    rw [List.eq_nil_iff_forall_not_mem]
    intro i hi
    obtain ⟨o, _, h1, h2, _⟩ := ready_spec hs hi
    rw [hl i h1] at h2
    cases h2
  | succ fuel ih =>
    intro listed a w hs hc hf hr
    refine ⟨fun hnil => hall listed a w (ready_nil he hs hnil) hr, fun i hi => ?_⟩
    obtain ⟨oi, hoi, hilt, hli, hdeps⟩ := ready_spec hs hi
    have hunord : ∀ j, j < ops.size → j ≠ i → (listed.getD j false = true ∧ i < j ∨ listed.getD j false = false ∧ j < i) → unord ops i j := by
      intro j hj hji hcase
      have hna : ancB ops ops.size i j = false ∧ ancB ops ops.size j i = false := by
        rcases hcase with ⟨hl, hlt⟩ | ⟨hl, hlt⟩
        · constructor
          · rcases Bool.eq_false_or_eq_true (ancB ops ops.size i j) with h | h
            · exfalso
              have ho : ops[j]? = some ops[j] := Array.getElem?_eq_getElem hj
              have := anc_listed hc _ _ _ _ ho (hc j _ ho hl) h
              rw [hli] at this; cases this
            · exact h
          · rcases Bool.eq_false_or_eq_true (ancB ops ops.size j i) with h | h
            · exfalso
              -- an ancestor stands ahead
              have hlt' : ∀ n a b, ancB ops n a b = true → b < ops.size → a < b := by
                intro n
                induction n with
                | zero => intro a b h; simp [ancB] at h
                | succ n ihn =>
                  intro a b h hb
                  have hob : ops[b]? = some ops[b] := Array.getElem?_eq_getElem hb
                  simp only [ancB, hob, List.any_eq_true, Bool.and_eq_true, Bool.or_eq_true, beq_iff_eq] at h
                  obtain ⟨e, hem, hbind, h⟩ := h
                  unfold edgesB at he
                  have h1 := List.all_eq_true.1 he b (by simpa using hb)
                  rw [hob] at h1
                  have h2 := List.all_eq_true.1 h1 e hem
                  simp only [hbind, Bool.not_true, Bool.false_or, decide_eq_true_eq] at h2
                  rcases h with h | h
                  · omega
                  · have := ihn a e.on h (by omega); omega
              have := hlt' _ _ _ h hilt
              omega
            · exact h
        · constructor
          · rcases Bool.eq_false_or_eq_true (ancB ops ops.size i j) with h | h
            · exfalso
              have hlt' : ∀ n a b, ancB ops n a b = true → b < ops.size → a < b := by
                intro n
                induction n with
                | zero => intro a b h; simp [ancB] at h
                | succ n ihn =>
                  intro a b h hb
                  have hob : ops[b]? = some ops[b] := Array.getElem?_eq_getElem hb
                  simp only [ancB, hob, List.any_eq_true, Bool.and_eq_true, Bool.or_eq_true, beq_iff_eq] at h
                  obtain ⟨e, hem, hbind, h⟩ := h
                  unfold edgesB at he
                  have h1 := List.all_eq_true.1 he b (by simpa using hb)
                  rw [hob] at h1
                  have h2 := List.all_eq_true.1 h1 e hem
                  simp only [hbind, Bool.not_true, Bool.false_or, decide_eq_true_eq] at h2
                  rcases h with h | h
                  · omega
                  · have := ihn a e.on h (by omega); omega
              have := hlt' _ _ _ h hj
              omega
            · exact h
          · rcases Bool.eq_false_or_eq_true (ancB ops ops.size j i) with h | h
            · exfalso
              have := anc_listed hc _ _ _ _ hoi hdeps h
              rw [hl] at this; cases this
            · exact h
      exact ⟨hna.1, hna.2, Ne.symm hji⟩
    -- the state here, and the one in the text's order, agree in what the operation looks at
    have hag : Ag ops oi (es.getD i noEff) ((List.range i).foldl (appI ops es) s0) (((List.range ops.size).filter fun i => listed.getD i false).foldl (appI ops es) s0) := by
      have h1 := foldl_ag (ops := ops) (es := es) (o := oi) (e := es.getD i noEff) (fun j => listed.getD j false) (List.range i) s0 s0 (Ag.refl _ _ _ _) (fun j hj hk oj hoj => by
        simp at hj
        exact hcomp i j oi oj hoi hoj (hunord j (by omega) (by omega) (.inr ⟨hk, hj⟩)))
      have h2 := foldl_ag (ops := ops) (es := es) (o := oi) (e := es.getD i noEff) (fun j => decide (j < i)) ((List.range ops.size).filter fun i => listed.getD i false) s0 s0 (Ag.refl _ _ _ _) (fun j hj hk oj hoj => by
        simp only [List.mem_filter, List.mem_range] at hj
        have hk' : ¬ j < i := by simpa using hk
        have hne : j ≠ i := by intro e; subst e; rw [hli] at hj; exact absurd hj.2 (by simp)
        exact hcomp i j oi oj hoi hoj (hunord j hj.1 hne (.inl ⟨hj.2, by omega⟩)))
      have heq : ((List.range ops.size).filter fun i => listed.getD i false).filter (fun j => decide (j < i)) = (List.range i).filter fun j => listed.getD j false := by
        rw [List.filter_filter]
        have hr := range_split i ops.size (by omega)
        rw [hr, List.filter_append]
        have e2 : (List.range' i (ops.size - i)).filter (fun a => decide (a < i) && listed.getD a false) = [] := by
          rw [List.filter_eq_nil_iff]
          intro a ha
          simp [List.mem_range'] at ha
          simp; intro hlt; omega
        rw [e2, List.append_nil]
        apply List.filter_congr
        intro a ha
        simp at ha
        simp [ha]
      rw [heq] at h2
      exact h1.symm.trans h2
    have hst := (hstep i oi hoi).congr hag
    -- the next list
    have hs' : (listed.setIfInBounds i true).size = ops.size := by simpa using hs
    have hget : ∀ j, (listed.setIfInBounds i true).getD j false = if j = i then true else listed.getD j false := by
      intro j
      rw [Array.getD_eq_getD_getElem?, Array.getD_eq_getD_getElem?, Array.getElem?_setIfInBounds]
      by_cases hj : j = i
      · subst hj; simp [hs, hilt]
      · have : ¬ i = j := fun e => hj e.symm
        simp [hj, this]
    have hc' : closed ops (listed.setIfInBounds i true) := by
      intro j o ho hl e hem hb
      rw [hget] at hl ⊢
      by_cases hj : j = i
      · subst hj
        rw [hoi] at ho; injection ho with ho; subst ho
        split
        · rfl
        · exact hdeps e hem hb
      · rw [if_neg hj] at hl
        split
        · rfl
        · exact hc j o ho hl e hem hb
    have hnext : appI ops es (((List.range ops.size).filter fun i => listed.getD i false).foldl (appI ops es) s0) i = ((List.range ops.size).filter fun j => (listed.setIfInBounds i true).getD j false).foldl (appI ops es) s0 := by
      have hr := range_split' i ops.size hilt
      rw [hr, List.filter_append, List.filter_append, List.foldl_append, List.foldl_append, List.filter_cons_of_neg (by rw [hli]; simp), List.filter_cons_of_pos (by rw [hget]; simp), List.foldl_cons]
      have e1 : (List.range i).filter (fun j => (listed.setIfInBounds i true).getD j false) = (List.range i).filter fun j => listed.getD j false := by
        apply List.filter_congr
        intro a ha
        simp at ha
        rw [hget, if_neg (by omega)]
      have e2 : (List.range' (i + 1) (ops.size - (i + 1))).filter (fun j => (listed.setIfInBounds i true).getD j false) = (List.range' (i + 1) (ops.size - (i + 1))).filter fun j => listed.getD j false := by
        apply List.filter_congr
        intro a ha
        simp only [List.mem_range'_1] at ha
        rw [hget, if_neg (by omega)]
      rw [e1, e2]
      refine (foldl_comm hoi _ _ fun j hj oj hoj => ?_).symm
      simp only [List.mem_filter, List.mem_range'_1] at hj
      exact hcomp i j oi oj hoi hoj (hunord j (by omega) (by omega) (.inl ⟨hj.2, by omega⟩))
    have hlen : ((List.range ops.size).filter fun j => !(listed.setIfInBounds i true).getD j false).length = fuel := by
      have hr := range_split' i ops.size hilt
      rw [hr, List.filter_append, List.length_append, List.filter_cons_of_pos (by rw [hli]; simp), List.length_cons] at hf
      rw [hr, List.filter_append, List.length_append, List.filter_cons_of_neg (by rw [hget]; simp)]
      have e1 : (List.range i).filter (fun j => !(listed.setIfInBounds i true).getD j false) = (List.range i).filter fun j => !listed.getD j false := by
        apply List.filter_congr
        intro a ha
        simp at ha
        rw [hget, if_neg (by omega)]
      have e2 : (List.range' (i + 1) (ops.size - (i + 1))).filter (fun j => !(listed.setIfInBounds i true).getD j false) = (List.range' (i + 1) (ops.size - (i + 1))).filter fun j => !listed.getD j false := by
        apply List.filter_congr
        intro a ha
        simp only [List.mem_range'_1] at ha
        rw [hget, if_neg (by omega)]
      rw [e1, e2]
      omega
    have hsim := step_sim (Q' := fun e a' w' => ∃ s', Q e s' ∧ Rel cx s' a' w') (K := wpAny P .any ops (fun e a' w' => ∃ s', Q e s' ∧ Rel cx s' a' w') fuel (listed.setIfInBounds i true)) hst hr
      (fun d hdd => by rw [hn]; exact hd oi (by simpa using Array.mem_of_getElem? hoi) d hdd) (fun a' w' hr' => ih _ a' w' hs' hc' hlen (by
        rw [← hnext]
        simp only [appI, hoi]
        exact hr'))
    unfold wpOp
    simp only [hoi]
    split
    · rename_i hw; rw [if_pos hw] at hsim; exact .inl hsim
    · rename_i hw; rw [if_neg hw] at hsim; exact hsim

/-- The pairs between which nothing says which comes first. -/
def unordL (ops : Array Oper) : List (Nat × Nat) :=
  (List.range ops.size).flatMap fun j => ((List.range j).filter fun i => !ancB ops ops.size i j).map fun i => (i, j)

def apartB (ops : Array Oper) : Bool := (unordL ops).all fun (i, j) => match ops[i]?, ops[j]? with
  | some oi, some oj => oi.apart ops oj
  | _, _ => true

/-- Their effects don't touch. -/
def touchFree (ops : Array Oper) (es : List Eff) : List (Nat × Nat) → Prop
  | [] => True
  | (i, j) :: r => ((∀ id ∈ wids (es.getD i noEff), id ∉ (es.getD j noEff).reads) ∧ (∀ id ∈ wids (es.getD j noEff), id ∉ (es.getD i noEff).reads) ∧ (∀ id ∈ wids (es.getD i noEff), id ∉ wids (es.getD j noEff))) ∧ touchFree ops es r

theorem touchFree_mem {ops : Array Oper} {es : List Eff} : ∀ {l : List (Nat × Nat)}, touchFree ops es l → ∀ i j, (i, j) ∈ l →
    (∀ id ∈ wids (es.getD i noEff), id ∉ (es.getD j noEff).reads) ∧ (∀ id ∈ wids (es.getD j noEff), id ∉ (es.getD i noEff).reads) ∧ (∀ id ∈ wids (es.getD i noEff), id ∉ wids (es.getD j noEff))
  | [], _, _, _, h => by cases h
  | (a, b) :: r, ht, i, j, h => by
    simp only [List.mem_cons, Prod.mk.injEq] at h
    rcases h with ⟨rfl, rfl⟩ | h
    · exact ht.1
    · exact touchFree_mem ht.2 i j h

def bumpB : List Oper → List Eff → Prop
  | o :: l, e :: es => (e.bump = true → o.dst ≠ none) ∧ bumpB l es
  | _, _ => True

theorem bumpB_at : ∀ {l : List Oper} {es : List Eff}, bumpB l es → ∀ i o, l[i]? = some o → (es.getD i noEff).bump = true → o.dst ≠ none
  | [], es, _, i, o, h, _ => by simp at h
  | o :: l, [], _, i, o', h, hb => by simp [List.getD, noEff] at hb
  | o :: l, e :: es, hh, i, o', h, hb => by
    cases i with
    | zero => simp at h; subst h; exact hh.1 (by simpa using hb)
    | succ i => exact bumpB_at hh.2 i o' (by simpa using h) (by simpa using hb)

theorem runs_len : ∀ {l : List Oper} {s : St} {es : List Eff} {s' : St}, Runs P ops l s es s' → es.length = l.length
  | _, _, _, _, .nil s => rfl
  | _, _, _, _, .cons o rest s e es s' h1 h2 => by simp [runs_len h2]

theorem WP.regionD {nt : Nat} {Q : Exit → St → Prop} {s s' : St} {id : Nat} (hm : P.follows .mixedOrders = true) (hd : dstB nt ops.toList = true) (he : edgesB ops = true) (ha : apartB ops = true)
    (h : Runs P ops ops.toList s es s') (hb : bumpB ops.toList es) (ht : touchFree ops es (unordL ops)) (hq : Q .normal s') : WP P nt (.region id ops true) Q s := fun cx a w hn hr => by
  obtain ⟨h1, h2⟩ := runs_at (es := es) h 0 s (fun j => by simp) (fun j => by simp) rfl
  have hlen := runs_len h
  refine wp_region_any hm (any_order (es := es) (s0 := s) (s' := s') (nt := nt) he (fun j o ho => ?_) ?_ ?_ (dstB_spec hd) hq cx hn ops.size _ a _ (by simp) ?_ ?_ ?_)
  · have := h1 j o (by simpa using ho)
    simpa using this
  · simpa using h2
  · intro i j oi oj hi hj hu
    obtain ⟨u1, u2, u3⟩ := hu
    have hilt : i < ops.size := (Array.getElem?_eq_some_iff.1 hi).1
    have hjlt : j < ops.size := (Array.getElem?_eq_some_iff.1 hj).1
    have key : ∀ i j oi oj, ops[i]? = some oi → ops[j]? = some oj → i < j → j < ops.size → ancB ops ops.size i j = false → Compat ops oi oj (es.getD i noEff) (es.getD j noEff) := by
      intro i j oi oj hi hj hij hjlt hna
      have hmem : (i, j) ∈ unordL ops := by
        unfold unordL
        simp only [List.mem_flatMap, List.mem_map, List.mem_filter, List.mem_range]
        exact ⟨j, hjlt, i, ⟨hij, by simp [hna]⟩, rfl⟩
      obtain ⟨t1, t2, t3⟩ := touchFree_mem ht i j hmem
      have hap : oi.apart ops oj = true := by
        have := List.all_eq_true.1 ha (i, j) hmem
        simpa [hi, hj] using this
      exact ⟨hap, t1, t2, t3, bumpB_at hb i oi (by simpa using hi), bumpB_at hb j oj (by simpa using hj)⟩
    rcases Nat.lt_or_ge i j with hij | hij
    · exact key i j oi oj hi hj hij hjlt u1
    · exact (key j i oj oi hj hi (by omega) hilt u2).symm
  · intro j o ho hl
    have hjlt : j < ops.size := (Array.getElem?_eq_some_iff.1 ho).1
    simp [Array.getD_eq_getD_getElem?, hjlt] at hl
  · have : (List.range ops.size).filter (fun i => !(Array.replicate ops.size false).getD i false) = List.range ops.size := by
      rw [List.filter_eq_self]
      intro i hi
      simp at hi
      simp [Array.getD_eq_getD_getElem?, hi]
    rw [this]; simp
  · have : (List.range ops.size).filter (fun i => (Array.replicate ops.size false).getD i false) = [] := by
      rw [List.filter_eq_nil_iff]
      intro i hi
      simp at hi
      simp [Array.getD_eq_getD_getElem?, hi]
    rw [this]
    obtain ⟨β, hr⟩ := hr
    exact ⟨β, hr.drew⟩
end

end Go.Proofs.YtabofinagjdljaaE
