import Derived.Test.YthgldcflcmlgpaaGreatDoorProg
import Derived.KernelRfl
import Derived.Scope
import Derived.Test.YthgldcflcmlgpaaGreatDoorM0
section
/- Regions whose order is drawn: the text's order tells what every order does, if what is not ordered does not touch. -/
set_option linter.unusedVariables false
set_option linter.unusedSimpArgs false
namespace Go.Proofs.YthgldcflcmlgpaaGreatDoorE
open Go.RowKit
theorem zhw (i n : Nat) (h : i ≤ n) : List.range n = List.range i ++ List.range' i (n - i) := by
  rw [List.range_eq_range', List.range_eq_range']
  have := List.range'_append (s := 0) (m := i) (n := n - i) (step := 1)
  simp only [Nat.one_mul, Nat.zero_add] at this
  rw [this]; congr 1; omega
theorem range_split' (i n : Nat) (h : i < n) : List.range n = List.range i ++ i :: List.range' (i + 1) (n - (i + 1)) := by
  rw [zhw i n (by omega), show n - i = (n - (i + 1)) + 1 by omega, List.range'_succ]
def ancB (ops : Array Oper) : Nat → Nat → Nat → Bool
  | 0, _, _ => false
  | n + 1, i, j =>
    match ops[j]? with
    | some o => o.after.toList.any fun e => Region.binds .any e && (e.on == i || ancB ops n i e.on)
    | none => false
def edgesB (ops : Array Oper) : Bool :=
  (List.range ops.size).all fun i => match ops[i]? with
    | some o => o.after.toList.all fun e => !Region.binds .any e || decide (e.on < i)
    | none => true
def wids (e : Eff) : List Id := e.wr.map (·.1)
structure Compat (ops : Array Oper) (oi oj : Oper) (ei ej : Eff) : Prop where
  apart : oi.apart ops oj = true
  w1 : ∀ id ∈ wids ei, id ∉ ej.reads
  w2 : ∀ id ∈ wids ej, id ∉ ei.reads
  w3 : ∀ id ∈ wids ei, id ∉ wids ej
  b1 : ei.bump = true → oi.dst ≠ none
  b2 : ej.bump = true → oj.dst ≠ none
theorem apart_symm {ops : Array Oper} {x y : Oper} (h : x.apart ops y = true) : y.apart ops x = true := by
  unfold Oper.apart at *
  cases hx : x.dst with
  | none => cases hy : y.dst with
    | none => rfl
    | some e => simp [hx, hy] at h ⊢; exact h
  | some d => cases hy : y.dst with
    | none => simp [hx, hy] at h ⊢; exact h
    | some e =>
      simp [hx, hy] at h ⊢
      exact ⟨⟨h.2, fun e => h.1.2 e.symm⟩, h.1.1⟩
theorem Compat.symm {ops : Array Oper} {oi oj : Oper} {ei ej : Eff} (h : Compat ops oi oj ei ej) : Compat ops oj oi ej ei :=
  ⟨apart_symm h.apart, h.w2, h.w1, fun id h1 h2 => h.w3 id h2 h1, h.b2, h.b1⟩
theorem zeb {σ : Id → Option Blk} : ∀ {l : List (Id × Blk)} {id : Id}, id ∉ l.map (·.1) → wrs σ l id = σ id
  | [], _, _ => rfl
  | (x, b) :: l, id, h => by
    simp at h
    show updI (wrs σ l) x (some b) id = σ id
    rw [zan _ _ _ _ h.1]
    exact zeb (by simpa using h.2)
theorem zjq {σ τ : Id → Option Blk} : ∀ {l : List (Id × Blk)} {id : Id}, id ∈ l.map (·.1) → wrs σ l id = wrs τ l id
  | [], _, h => by simp at h
  | (x, b) :: l, id, h => by
    show updI (wrs σ l) x (some b) id = updI (wrs τ l) x (some b) id
    by_cases e : id = x
    · subst e; simp
    · rw [zan _ _ _ _ e, zan _ _ _ _ e]
      refine zjq ?_
      simp at h
      rcases h with h | h
      · exact absurd h e
      · simpa using h
theorem St.ext {s t : St} (h1 : s.frame = t.frame) (h2 : s.store = t.store) (h3 : s.gens = t.gens) : s = t := by
  cases s; cases t; simp_all
def Ag (ops : Array Oper) (o : Oper) (e : Eff) (s s' : St) : Prop :=
  (∀ t ∈ o.looksAt ops, s'.frame t = s.frame t) ∧ (∀ id ∈ e.reads, s'.store id = s.store id) ∧ (∀ d, o.dst = some d → s'.gens d = s.gens d)
theorem Ag.refl (ops : Array Oper) (o : Oper) (e : Eff) (s : St) : Ag ops o e s s := ⟨fun _ _ => rfl, fun _ _ => rfl, fun _ _ => rfl⟩
theorem Ag.trans {ops : Array Oper} {o : Oper} {e : Eff} {a b c : St} (h : Ag ops o e a b) (k : Ag ops o e b c) : Ag ops o e a c :=
  ⟨fun t ht => (k.1 t ht).trans (h.1 t ht), fun t ht => (k.2.1 t ht).trans (h.2.1 t ht), fun t ht => (k.2.2 t ht).trans (h.2.2 t ht)⟩
theorem Ag.symm {ops : Array Oper} {o : Oper} {e : Eff} {a b : St} (h : Ag ops o e a b) : Ag ops o e b a :=
  ⟨fun t ht => (h.1 t ht).symm, fun t ht => (h.2.1 t ht).symm, fun t ht => (h.2.2 t ht).symm⟩
theorem zfz (s : St) (d : Option Nat) (e : Eff) (t : Nat) : (s.eff d e).frame t = if d = some t then e.val else s.frame t := by
  cases d with
  | none => simp [St.eff, St.put]
  | some d =>
    simp only [St.eff, St.put, Option.some.injEq]
    by_cases h : t = d
    · subst h; simp
    · rw [zbj _ _ _ _ h, if_neg (fun e => h e.symm)]
theorem Ag.of_compat {ops : Array Oper} {oi oj : Oper} {ei ej : Eff} (h : Compat ops oi oj ei ej) (s : St) : Ag ops oi ei s (s.eff oj.dst ej) := by
  obtain ⟨a1, a2, a3⟩ := Oper.apart_spec h.apart
  refine ⟨fun t ht => ?_, fun id hid => ?_, fun d hd => ?_⟩
  · rw [zfz, if_neg]
    intro e
    exact a3 t e ht
  · exact zeb (fun hm => h.w2 id hm hid)
  · simp only [St.eff]
    split
    · rename_i hb
      cases hj : oj.dst with
      | none => exact absurd hj (h.b2 hb)
      | some d' =>
        simp only [Option.getD_some]
        rw [zbj]
        intro e
        subst e
        exact a2 d hd hj
    · rfl
theorem Ag.step {ops : Array Oper} {oi : Oper} {ei : Eff} {s s' : St} (h : Ag ops oi ei s s') (d : Option Nat) (e : Eff) : Ag ops oi ei (s.eff d e) (s'.eff d e) := by
  refine ⟨fun t ht => ?_, fun id hid => ?_, fun t ht => ?_⟩
  · rw [zfz, zfz, h.1 t ht]
  · simp only [St.eff]
    by_cases hm : id ∈ e.wr.map (·.1)
    · exact zjq hm
    · rw [zeb hm, zeb hm]; exact h.2.1 id hid
  · simp only [St.eff]
    split
    · by_cases e : t = d.getD 0
      · subst e; simp [h.2.2 _ ht]
      · rw [zbj _ _ _ _ e, zbj _ _ _ _ e]; exact h.2.2 t ht
    · exact h.2.2 t ht
theorem eff_comm {ops : Array Oper} {oi oj : Oper} {ei ej : Eff} (h : Compat ops oi oj ei ej) (s : St) : (s.eff oi.dst ei).eff oj.dst ej = (s.eff oj.dst ej).eff oi.dst ei := by
  obtain ⟨a1, a2, a3⟩ := Oper.apart_spec h.apart
  refine St.ext ?_ ?_ ?_
  · funext t
    simp only [zfz]
    by_cases h1 : oj.dst = some t
    · have h2 : oi.dst ≠ some t := fun e => a2 t e h1
      rw [if_pos h1, if_neg h2, if_pos h1]
    · rw [if_neg h1, if_neg h1]
  · funext id
    simp only [St.eff]
    by_cases h1 : id ∈ ei.wr.map (·.1)
    · have h2 : id ∉ ej.wr.map (·.1) := h.w3 id h1
      rw [zeb h2]
      exact zjq h1
    · rw [zeb (σ := wrs s.store ej.wr) h1]
      by_cases h2 : id ∈ ej.wr.map (·.1)
      · exact zjq h2
      · rw [zeb h2, zeb h2, zeb h1]
  · simp only [St.eff]
    by_cases hi : ei.bump = true <;> by_cases hj : ej.bump = true
    · simp only [hi, hj, if_true]
      cases hdi : oi.dst with
      | none => exact absurd hdi (h.b1 hi)
      | some di =>
        cases hdj : oj.dst with
        | none => exact absurd hdj (h.b2 hj)
        | some dj =>
          have hne : di ≠ dj := fun e => a2 di hdi (e ▸ hdj)
          simp only [Option.getD_some]
          funext t
          by_cases e1 : t = dj
          · subst e1
            rw [zfl, zbj _ _ _ _ hne.symm, zbj _ _ _ _ hne.symm, zfl]
          · rw [zbj _ _ _ _ e1]
            by_cases e2 : t = di
            · subst e2
              rw [zfl, zfl, zbj _ _ _ _ hne]
            · rw [zbj _ _ _ _ e2, zbj _ _ _ _ e2, zbj _ _ _ _ e1]
    · simp [hi, hj]
    · simp [hi, hj]
    · simp [hi, hj]
theorem Step.congr {P : Program} {ops : Array Oper} {o : Oper} {s s' : St} {e : Eff} (h : Step P ops o s e) (hA : Ag ops o e s s') : Step P ops o s' e := by
  have hw : wantedA ops o s'.frame = wantedA ops o s.frame := by
    unfold wantedA
    cases hg : o.guard with
    | none => rfl
    | some jw =>
      obtain ⟨j, want⟩ := jw
      simp only
      cases hd : (ops[j]?).bind (·.dst) with
      | none => rfl
      | some d =>
        simp only
        rw [hA.1 d (by simp [Oper.looksAt, hg, hd])]
  rcases h with ⟨h1, h2⟩ | ⟨h1, h2⟩
  · refine .inl ⟨hw.trans h1, ⟨fun s'' k1 k2 k3 => h2.sim s'' (fun x hx => ?_) (fun id hid => (k2 id hid).trans (hA.2.1 id hid)) (fun d hd => (k3 d hd).trans (hA.2.2 d hd))⟩⟩
    rw [k1 x hx]
    cases x with
    | tmp t =>
      refine hA.1 t ?_
      simp only [Oper.looksAt, List.mem_append, List.mem_filterMap]
      exact .inl ⟨.tmp t, by simpa using hx, rfl⟩
    | _ => rfl
  · exact .inr ⟨hw.trans h1, h2⟩
section
variable {P : Program} {ops : Array Oper} {es : List Eff}
def appI (ops : Array Oper) (es : List Eff) (s : St) (i : Nat) : St :=
  match ops[i]? with
  | some o => s.eff o.dst (es.getD i noEff)
  | none => s
theorem zpj : ∀ {l : List Oper} {s : St} {fs : List Eff} {s' : St}, Runs P ops l s fs s' → ∀ k s0, (∀ j, l[j]? = ops[k + j]?) → (∀ j, fs[j]? = es[k + j]?) → s = (List.range k).foldl (appI ops es) s0 →
    (∀ j o, l[j]? = some o → Step P ops o ((List.range (k + j)).foldl (appI ops es) s0) (es.getD (k + j) noEff)) ∧ s' = (List.range (k + l.length)).foldl (appI ops es) s0
  | _, _, _, _, .nil s, k, s0, _, _, hs => ⟨by simp, by simpa using hs⟩
  | _, _, _, _, .cons o rest s e fs s' h1 h2, k, s0, hl, hf, hs => by
    have ho : ops[k]? = some o := by have := hl 0; simpa using this.symm
    have he : es[k]? = some e := by have := hf 0; simpa using this.symm
    have hnext : s.eff o.dst e = (List.range (k + 1)).foldl (appI ops es) s0 := by
      rw [List.range_succ, List.foldl_append, ← hs]
      simp [appI, ho, he, List.getD]
    obtain ⟨r1, r2⟩ := zpj h2 (k + 1) s0 (fun j => by have := hl (j + 1); rw [show k + 1 + j = k + (j + 1) by omega]; simpa using this) (fun j => by have := hf (j + 1); rw [show k + 1 + j = k + (j + 1) by omega]; simpa using this) hnext
    refine ⟨fun j o' hj => ?_, ?_⟩
    · cases j with
      | zero =>
        simp at hj
        subst hj
        rw [Nat.add_zero, ← hs]
        simpa [List.getD, he] using h1
      | succ j =>
        have := r1 j o' (by simpa using hj)
        rwa [show k + 1 + j = k + (j + 1) by omega] at this
    · rw [r2, List.length_cons, show k + 1 + rest.length = k + (rest.length + 1) by omega]
def unord (ops : Array Oper) (i j : Nat) : Prop := ancB ops ops.size i j = false ∧ ancB ops ops.size j i = false ∧ i ≠ j
def zjo (ops : Array Oper) (listed : Array Bool) : Prop := ∀ j o, ops[j]? = some o → listed.getD j false = true → ∀ e ∈ o.after, Region.binds .any e = true → listed.getD e.on false = true
theorem zgq {listed : Array Bool} (hc : zjo ops listed) : ∀ (n i j : Nat) (o : Oper), ops[j]? = some o → (∀ e ∈ o.after, Region.binds .any e = true → listed.getD e.on false = true) → ancB ops n i j = true → listed.getD i false = true
  | 0, _, _, _, _, _, h => by simp [ancB] at h
  | n + 1, i, j, o, ho, hd, h => by
    simp only [ancB, ho, List.any_eq_true, Bool.and_eq_true, Bool.or_eq_true, beq_iff_eq] at h
    obtain ⟨e, he, hb, h⟩ := h
    have hl := hd e (by simpa using he) hb
    rcases h with h | h
    · rw [← h]; exact hl
    · cases ho' : ops[e.on]? with
      | none =>
        cases n with
        | zero => simp [ancB] at h
        | succ n => simp [ancB, ho'] at h
      | some o' => exact zgq hc n i e.on o' ho' (hc e.on o' ho' hl) h
theorem zhh {o : Oper} {e : Eff} (keep : Nat → Bool) : ∀ (L : List Nat) (s s' : St), Ag ops o e s s' → (∀ j ∈ L, keep j = false → ∀ oj, ops[j]? = some oj → Compat ops o oj e (es.getD j noEff)) →
    Ag ops o e ((L.filter keep).foldl (appI ops es) s) (L.foldl (appI ops es) s')
  | [], s, s', h, _ => h
  | j :: L, s, s', h, hk => by
    by_cases hj : keep j = true
    · rw [List.filter_cons_of_pos hj, List.foldl_cons, List.foldl_cons]
      refine zhh keep L _ _ ?_ (fun i hi => hk i (by simp [hi]))
      unfold appI
      split
      · exact h.step _ _
      · exact h
    · rw [List.filter_cons_of_neg hj, List.foldl_cons]
      refine zhh keep L _ _ ?_ (fun i hi => hk i (by simp [hi]))
      unfold appI
      split
      · rename_i oj hoj
        exact h.trans (Ag.of_compat (hk j (by simp) (by simpa using hj) oj hoj) s')
      · exact h
theorem zji {i : Nat} {oi : Oper} (hi : ops[i]? = some oi) : ∀ (L : List Nat) (s : St), (∀ j ∈ L, ∀ oj, ops[j]? = some oj → Compat ops oi oj (es.getD i noEff) (es.getD j noEff)) →
    L.foldl (appI ops es) (appI ops es s i) = appI ops es (L.foldl (appI ops es) s) i
  | [], s, _ => rfl
  | j :: L, s, h => by
    rw [List.foldl_cons, List.foldl_cons, ← zji hi L _ (fun k hk => h k (by simp [hk]))]
    congr 1
    unfold appI
    simp only [hi]
    cases hj : ops[j]? with
    | none => rfl
    | some oj => exact eff_comm (h j (by simp) oj hj) s
theorem zjc {listed : Array Bool} {i : Nat} (hs : listed.size = ops.size) (h : i ∈ Region.ready .any ops listed) : ∃ o, ops[i]? = some o ∧ i < ops.size ∧ listed.getD i false = false ∧ ∀ e ∈ o.after, Region.binds .any e = true → listed.getD e.on false = true := by
  unfold Region.ready at h
  simp only [List.mem_filter, List.mem_range, Bool.and_eq_true, Bool.not_eq_true'] at h
  obtain ⟨h1, h2, h3⟩ := h
  cases ho : ops[i]? with
  | none => rw [ho] at h3; simp at h3
  | some o =>
    rw [ho] at h3
    refine ⟨o, rfl, h1, ?_, fun e he hb => ?_⟩
    · rw [Array.getD_eq_getD_getElem?] at h2 ⊢
      rw [Array.getElem?_eq_getElem (by omega)] at h2 ⊢
      exact h2
    · simp only [Option.map_some, Option.getD_some] at h3
      have h4 := (Array.all_eq_true'.1 h3) e he
      simpa [hb] using h4
theorem ready_nil (he : edgesB ops = true) {listed : Array Bool} (hs : listed.size = ops.size) (h : Region.ready .any ops listed = []) : ∀ i, i < ops.size → listed.getD i false = true := by
  intro i
  induction i using Nat.strongRecOn with
  | _ i ih =>
    intro hi
    rcases Bool.eq_false_or_eq_true (listed.getD i false) with hl | hl
    · exact hl
    · exfalso
      have : i ∈ Region.ready .any ops listed := by
        unfold Region.ready
        simp only [List.mem_filter, List.mem_range, Bool.and_eq_true, Bool.not_eq_true']
        refine ⟨hi, ?_, ?_⟩
        · rw [Array.getD_eq_getD_getElem?] at hl ⊢
          rw [Array.getElem?_eq_getElem (by omega)] at hl ⊢
          exact hl
        · rw [Array.getElem?_eq_getElem hi]
          simp only [Option.map_some, Option.getD_some]
          refine Array.all_eq_true'.2 fun e hem => ?_
          unfold edgesB at he
          have h1 := List.all_eq_true.1 he i (by simpa using hi)
          rw [Array.getElem?_eq_getElem hi] at h1
          have h2 := List.all_eq_true.1 h1 e (by simpa using hem)
          simp only [Bool.or_eq_true, Bool.not_eq_true', decide_eq_true_eq] at h2 ⊢
          rcases h2 with h2 | h2
          · exact .inl h2
          · exact .inr (ih e.on h2 (by omega))
      rw [h] at this
      cases this
theorem any_order {s0 s' : St} {nt : Nat} {Q : Exit → St → Prop} (he : edgesB ops = true)
    (hstep : ∀ j o, ops[j]? = some o → Step P ops o ((List.range j).foldl (appI ops es) s0) (es.getD j noEff)) (hend : s' = (List.range ops.size).foldl (appI ops es) s0)
    (hcomp : ∀ i j oi oj, ops[i]? = some oi → ops[j]? = some oj → unord ops i j → Compat ops oi oj (es.getD i noEff) (es.getD j noEff)) (hd : ∀ o ∈ ops.toList, ∀ d, o.dst = some d → d < nt) (hq : Q .normal s') (cx : Ctx) (hn : cx.nt = nt) :
    ∀ (fuel : Nat) (listed : Array Bool) (a : Act) (w : World), listed.size = ops.size → zjo ops listed → ((List.range ops.size).filter fun i => !listed.getD i false).length = fuel →
      Rel cx (((List.range ops.size).filter fun i => listed.getD i false).foldl (appI ops es) s0) a w → wpAny P .any ops (fun e a' w' => ∃ s', Q e s' ∧ Rel cx s' a' w') fuel listed a w := by
  have hall : ∀ (listed : Array Bool) (a : Act) (w : World), (∀ i, i < ops.size → listed.getD i false = true) → Rel cx (((List.range ops.size).filter fun i => listed.getD i false).foldl (appI ops es) s0) a w → ∃ s', Q .normal s' ∧ Rel cx s' a w := by
    intro listed a w hl hr
    have : (List.range ops.size).filter (fun i => listed.getD i false) = List.range ops.size := by
      rw [List.filter_eq_self]
      intro i hi
      exact hl i (by simpa using hi)
    rw [this, ← hend] at hr
    exact ⟨s', hq, hr⟩
  intro fuel
  induction fuel with
  | zero =>
    intro listed a w hs hc hf hr
    have hl : ∀ i, i < ops.size → listed.getD i false = true := by
      intro i hi
      have h0 := List.eq_nil_of_length_eq_zero hf
      rw [List.filter_eq_nil_iff] at h0
      have := h0 i (by simpa using hi)
      simpa using this
    refine ⟨?_, hall listed a w hl hr⟩
    rw [List.eq_nil_iff_forall_not_mem]
    intro i hi
    obtain ⟨o, _, h1, h2, _⟩ := zjc hs hi
    rw [hl i h1] at h2
    cases h2
  | succ fuel ih =>
    intro listed a w hs hc hf hr
    refine ⟨fun hnil => hall listed a w (ready_nil he hs hnil) hr, fun i hi => ?_⟩
    obtain ⟨oi, hoi, hilt, hli, hdeps⟩ := zjc hs hi
    have hunord : ∀ j, j < ops.size → j ≠ i → (listed.getD j false = true ∧ i < j ∨ listed.getD j false = false ∧ j < i) → unord ops i j := by
      intro j hj hji hcase
      have hna : ancB ops ops.size i j = false ∧ ancB ops ops.size j i = false := by
        rcases hcase with ⟨hl, hlt⟩ | ⟨hl, hlt⟩
        · constructor
          · rcases Bool.eq_false_or_eq_true (ancB ops ops.size i j) with h | h
            · exfalso
              have ho : ops[j]? = some ops[j] := Array.getElem?_eq_getElem hj
              have := zgq hc _ _ _ _ ho (hc j _ ho hl) h
              rw [hli] at this; cases this
            · exact h
          · rcases Bool.eq_false_or_eq_true (ancB ops ops.size j i) with h | h
            · exfalso
              -- an ancestor stands ahead
              have hlt' : ∀ n a b, ancB ops n a b = true → b < ops.size → a < b := by
                intro n
                induction n with
                | zero => intro a b h; simp [ancB] at h
                | succ n ihn =>
                  intro a b h hb
                  have hob : ops[b]? = some ops[b] := Array.getElem?_eq_getElem hb
                  simp only [ancB, hob, List.any_eq_true, Bool.and_eq_true, Bool.or_eq_true, beq_iff_eq] at h
                  obtain ⟨e, hem, hbind, h⟩ := h
                  unfold edgesB at he
                  have h1 := List.all_eq_true.1 he b (by simpa using hb)
                  rw [hob] at h1
                  have h2 := List.all_eq_true.1 h1 e hem
                  simp only [hbind, Bool.not_true, Bool.false_or, decide_eq_true_eq] at h2
                  rcases h with h | h
                  · omega
                  · have := ihn a e.on h (by omega); omega
              have := hlt' _ _ _ h hilt
              omega
            · exact h
        · constructor
          · rcases Bool.eq_false_or_eq_true (ancB ops ops.size i j) with h | h
            · exfalso
              have hlt' : ∀ n a b, ancB ops n a b = true → b < ops.size → a < b := by
                intro n
                induction n with
                | zero => intro a b h; simp [ancB] at h
                | succ n ihn =>
                  intro a b h hb
                  have hob : ops[b]? = some ops[b] := Array.getElem?_eq_getElem hb
                  simp only [ancB, hob, List.any_eq_true, Bool.and_eq_true, Bool.or_eq_true, beq_iff_eq] at h
                  obtain ⟨e, hem, hbind, h⟩ := h
                  unfold edgesB at he
                  have h1 := List.all_eq_true.1 he b (by simpa using hb)
                  rw [hob] at h1
                  have h2 := List.all_eq_true.1 h1 e hem
                  simp only [hbind, Bool.not_true, Bool.false_or, decide_eq_true_eq] at h2
                  rcases h with h | h
                  · omega
                  · have := ihn a e.on h (by omega); omega
              have := hlt' _ _ _ h hj
              omega
            · exact h
          · rcases Bool.eq_false_or_eq_true (ancB ops ops.size j i) with h | h
            · exfalso
              have := zgq hc _ _ _ _ hoi hdeps h
              rw [hl] at this; cases this
            · exact h
      exact ⟨hna.1, hna.2, Ne.symm hji⟩
    -- the state here, and the one in the text's order, agree in what the operation looks at
    have hag : Ag ops oi (es.getD i noEff) ((List.range i).foldl (appI ops es) s0) (((List.range ops.size).filter fun i => listed.getD i false).foldl (appI ops es) s0) := by
      have h1 := zhh (ops := ops) (es := es) (o := oi) (e := es.getD i noEff) (fun j => listed.getD j false) (List.range i) s0 s0 (Ag.refl _ _ _ _) (fun j hj hk oj hoj => by
        simp at hj
        exact hcomp i j oi oj hoi hoj (hunord j (by omega) (by omega) (.inr ⟨hk, hj⟩)))
      have h2 := zhh (ops := ops) (es := es) (o := oi) (e := es.getD i noEff) (fun j => decide (j < i)) ((List.range ops.size).filter fun i => listed.getD i false) s0 s0 (Ag.refl _ _ _ _) (fun j hj hk oj hoj => by
        simp only [List.mem_filter, List.mem_range] at hj
        have hk' : ¬ j < i := by simpa using hk
        have hne : j ≠ i := by intro e; subst e; rw [hli] at hj; exact absurd hj.2 (by simp)
        exact hcomp i j oi oj hoi hoj (hunord j hj.1 hne (.inl ⟨hj.2, by omega⟩)))
      have heq : ((List.range ops.size).filter fun i => listed.getD i false).filter (fun j => decide (j < i)) = (List.range i).filter fun j => listed.getD j false := by
        rw [List.filter_filter]
        have hr := zhw i ops.size (by omega)
        rw [hr, List.filter_append]
        have e2 : (List.range' i (ops.size - i)).filter (fun a => decide (a < i) && listed.getD a false) = [] := by
          rw [List.filter_eq_nil_iff]
          intro a ha
          simp [List.mem_range'] at ha
          simp; intro hlt; omega
        rw [e2, List.append_nil]
        apply List.filter_congr
        intro a ha
        simp at ha
        simp [ha]
      rw [heq] at h2
      exact h1.symm.trans h2
    have hst := (hstep i oi hoi).congr hag
    -- the next list
    have hs' : (listed.setIfInBounds i true).size = ops.size := by simpa using hs
    have hget : ∀ j, (listed.setIfInBounds i true).getD j false = if j = i then true else listed.getD j false := by
      intro j
      rw [Array.getD_eq_getD_getElem?, Array.getD_eq_getD_getElem?, Array.getElem?_setIfInBounds]
      by_cases hj : j = i
      · subst hj; simp [hs, hilt]
      · have : ¬ i = j := fun e => hj e.symm
        simp [hj, this]
    have hc' : zjo ops (listed.setIfInBounds i true) := by
      intro j o ho hl e hem hb
      rw [hget] at hl ⊢
      by_cases hj : j = i
      · subst hj
        rw [hoi] at ho; injection ho with ho; subst ho
        split
        · rfl
        · exact hdeps e hem hb
      · rw [if_neg hj] at hl
        split
        · rfl
        · exact hc j o ho hl e hem hb
    have hnext : appI ops es (((List.range ops.size).filter fun i => listed.getD i false).foldl (appI ops es) s0) i = ((List.range ops.size).filter fun j => (listed.setIfInBounds i true).getD j false).foldl (appI ops es) s0 := by
      have hr := range_split' i ops.size hilt
      rw [hr, List.filter_append, List.filter_append, List.foldl_append, List.foldl_append, List.filter_cons_of_neg (by rw [hli]; simp), List.filter_cons_of_pos (by rw [hget]; simp), List.foldl_cons]
      have e1 : (List.range i).filter (fun j => (listed.setIfInBounds i true).getD j false) = (List.range i).filter fun j => listed.getD j false := by
        apply List.filter_congr
        intro a ha
        simp at ha
        rw [hget, if_neg (by omega)]
      have e2 : (List.range' (i + 1) (ops.size - (i + 1))).filter (fun j => (listed.setIfInBounds i true).getD j false) = (List.range' (i + 1) (ops.size - (i + 1))).filter fun j => listed.getD j false := by
        apply List.filter_congr
        intro a ha
        simp only [List.mem_range'_1] at ha
        rw [hget, if_neg (by omega)]
      rw [e1, e2]
      refine (zji hoi _ _ fun j hj oj hoj => ?_).symm
      simp only [List.mem_filter, List.mem_range'_1] at hj
      exact hcomp i j oi oj hoi hoj (hunord j (by omega) (by omega) (.inl ⟨hj.2, by omega⟩))
    have hlen : ((List.range ops.size).filter fun j => !(listed.setIfInBounds i true).getD j false).length = fuel := by
      have hr := range_split' i ops.size hilt
      rw [hr, List.filter_append, List.length_append, List.filter_cons_of_pos (by rw [hli]; simp), List.length_cons] at hf
      rw [hr, List.filter_append, List.length_append, List.filter_cons_of_neg (by rw [hget]; simp)]
      have e1 : (List.range i).filter (fun j => !(listed.setIfInBounds i true).getD j false) = (List.range i).filter fun j => !listed.getD j false := by
        apply List.filter_congr
        intro a ha
        simp at ha
        rw [hget, if_neg (by omega)]
      have e2 : (List.range' (i + 1) (ops.size - (i + 1))).filter (fun j => !(listed.setIfInBounds i true).getD j false) = (List.range' (i + 1) (ops.size - (i + 1))).filter fun j => !listed.getD j false := by
        apply List.filter_congr
        intro a ha
        simp only [List.mem_range'_1] at ha
        rw [hget, if_neg (by omega)]
      rw [e1, e2]
      omega
    have hsim := zni (Q' := fun e a' w' => ∃ s', Q e s' ∧ Rel cx s' a' w') (K := wpAny P .any ops (fun e a' w' => ∃ s', Q e s' ∧ Rel cx s' a' w') fuel (listed.setIfInBounds i true)) hst hr
      (fun d hdd => by rw [hn]; exact hd oi (by simpa using Array.mem_of_getElem? hoi) d hdd) (fun a' w' hr' => ih _ a' w' hs' hc' hlen (by
        rw [← hnext]
        simp only [appI, hoi]
        exact hr'))
    unfold wpOp
    simp only [hoi]
    split
    · rename_i hw; rw [if_pos hw] at hsim; exact .inl hsim
    · rename_i hw; rw [if_neg hw] at hsim; exact hsim
def unordL (ops : Array Oper) : List (Nat × Nat) :=
  (List.range ops.size).flatMap fun j => ((List.range j).filter fun i => !ancB ops ops.size i j).map fun i => (i, j)
def apartB (ops : Array Oper) : Bool := (unordL ops).all fun (i, j) => match ops[i]?, ops[j]? with
  | some oi, some oj => oi.apart ops oj
  | _, _ => true
def touchFree (ops : Array Oper) (es : List Eff) : List (Nat × Nat) → Prop
  | [] => True
  | (i, j) :: r => ((∀ id ∈ wids (es.getD i noEff), id ∉ (es.getD j noEff).reads) ∧ (∀ id ∈ wids (es.getD j noEff), id ∉ (es.getD i noEff).reads) ∧ (∀ id ∈ wids (es.getD i noEff), id ∉ wids (es.getD j noEff))) ∧ touchFree ops es r
theorem zfn {ops : Array Oper} {es : List Eff} : ∀ {l : List (Nat × Nat)}, touchFree ops es l → ∀ i j, (i, j) ∈ l →
    (∀ id ∈ wids (es.getD i noEff), id ∉ (es.getD j noEff).reads) ∧ (∀ id ∈ wids (es.getD j noEff), id ∉ (es.getD i noEff).reads) ∧ (∀ id ∈ wids (es.getD i noEff), id ∉ wids (es.getD j noEff))
  | [], _, _, _, h => by cases h
  | (a, b) :: r, ht, i, j, h => by
    simp only [List.mem_cons, Prod.mk.injEq] at h
    rcases h with ⟨rfl, rfl⟩ | h
    · exact ht.1
    · exact zfn ht.2 i j h
def bumpB : List Oper → List Eff → Prop
  | o :: l, e :: es => (e.bump = true → o.dst ≠ none) ∧ bumpB l es
  | _, _ => True
theorem zkx : ∀ {l : List Oper} {es : List Eff}, bumpB l es → ∀ i o, l[i]? = some o → (es.getD i noEff).bump = true → o.dst ≠ none
  | [], es, _, i, o, h, _ => by simp at h
  | o :: l, [], _, i, o', h, hb => by simp [List.getD, noEff] at hb
  | o :: l, e :: es, hh, i, o', h, hb => by
    cases i with
    | zero => simp at h; subst h; exact hh.1 (by simpa using hb)
    | succ i => exact zkx hh.2 i o' (by simpa using h) (by simpa using hb)
theorem znl : ∀ {l : List Oper} {s : St} {es : List Eff} {s' : St}, Runs P ops l s es s' → es.length = l.length
  | _, _, _, _, .nil s => rfl
  | _, _, _, _, .cons o rest s e es s' h1 h2 => by simp [znl h2]
theorem WP.regionD {nt : Nat} {Q : Exit → St → Prop} {s s' : St} {id : Nat} (hm : P.follows .mixedOrders = true) (hd : dstB nt ops.toList = true) (he : edgesB ops = true) (ha : apartB ops = true)
    (h : Runs P ops ops.toList s es s') (hb : bumpB ops.toList es) (ht : touchFree ops es (unordL ops)) (hq : Q .normal s') : WP P nt (.region id ops true) Q s := fun cx a w hn hr => by
  obtain ⟨h1, h2⟩ := zpj (es := es) h 0 s (fun j => by simp) (fun j => by simp) rfl
  have hlen := znl h
  refine wp_region_any hm (any_order (es := es) (s0 := s) (s' := s') (nt := nt) he (fun j o ho => ?_) ?_ ?_ (zma hd) hq cx hn ops.size _ a _ (by simp) ?_ ?_ ?_)
  · have := h1 j o (by simpa using ho)
    simpa using this
  · simpa using h2
  · intro i j oi oj hi hj hu
    obtain ⟨u1, u2, u3⟩ := hu
    have hilt : i < ops.size := (Array.getElem?_eq_some_iff.1 hi).1
    have hjlt : j < ops.size := (Array.getElem?_eq_some_iff.1 hj).1
    have key : ∀ i j oi oj, ops[i]? = some oi → ops[j]? = some oj → i < j → j < ops.size → ancB ops ops.size i j = false → Compat ops oi oj (es.getD i noEff) (es.getD j noEff) := by
      intro i j oi oj hi hj hij hjlt hna
      have hmem : (i, j) ∈ unordL ops := by
        unfold unordL
        simp only [List.mem_flatMap, List.mem_map, List.mem_filter, List.mem_range]
        exact ⟨j, hjlt, i, ⟨hij, by simp [hna]⟩, rfl⟩
      obtain ⟨t1, t2, t3⟩ := zfn ht i j hmem
      have hap : oi.apart ops oj = true := by
        have := List.all_eq_true.1 ha (i, j) hmem
        simpa [hi, hj] using this
      exact ⟨hap, t1, t2, t3, zkx hb i oi (by simpa using hi), zkx hb j oj (by simpa using hj)⟩
    rcases Nat.lt_or_ge i j with hij | hij
    · exact key i j oi oj hi hj hij hjlt u1
    · exact (key j i oj oi hj hi (by omega) hilt u2).symm
  · intro j o ho hl
    have hjlt : j < ops.size := (Array.getElem?_eq_some_iff.1 ho).1
    simp [Array.getD_eq_getD_getElem?, hjlt] at hl
  · have : (List.range ops.size).filter (fun i => !(Array.replicate ops.size false).getD i false) = List.range ops.size := by
      rw [List.filter_eq_self]
      intro i hi
      simp at hi
      simp [Array.getD_eq_getD_getElem?, hi]
    rw [this]; simp
  · have : (List.range ops.size).filter (fun i => (Array.replicate ops.size false).getD i false) = [] := by
      rw [List.filter_eq_nil_iff]
      intro i hi
      simp at hi
      simp [Array.getD_eq_getD_getElem?, hi]
    rw [this]
    obtain ⟨β, hr⟩ := hr
    exact ⟨β, hr.drew⟩
end
end Go.Proofs.YthgldcflcmlgpaaGreatDoorE
end
section
/- A function's contract out of its code. -/
set_option linter.unusedVariables false
set_option linter.unusedSimpArgs false
namespace Go.Proofs.YthgldcflcmlgpaaGreatDoorE
open Go.RowKit
def resV (P : Program) (s : St) : ResultVar → Option PV
  | .tmp t => some (s.frame t)
  | .cell a ty =>
    match aggOf P ty, szOf P ty, s.frame a with
    | some b, some sz, .pt id ver off => (live s.store id ver).bind fun blk => loadL b sz (blk.cells.drop off)
    | _, _, _ => none
def resL (P : Program) (s : St) : List ResultVar → Option (List PV)
  | [] => some []
  | x :: r => match resV P s x, resL P s r with
    | some p, some l => some (p :: l)
    | _, _ => none
def resA (P : Program) (s : St) (l : List ResultVar) : Option PV :=
  match resL P s l with
  | some [p] => some p
  | some l => some (.tup l)
  | none => none
def resM (tmps : Array Value) : ResultVar → Sem Value
  | .tmp t => pure (tmps.getD t undef)
  | .cell p t => do loadVar t (← asAddr (tmps.getD p undef))
theorem ziy (fn : Func) (tmps : Array Value) : results fn tmps = (do let vs ← fn.results.mapM (resM tmps); pure (if h : vs.size = 1 then vs[0] else .tuple vs)) := by
  unfold results
  congr 2
theorem znm {P : Program} {c : Ctx} {β : Id → Option (Nat × Nat)} {s : St} {a : Act} {w : World} (hr : RelB c β s a w) : ∀ {l : List ResultVar} {ps : List PV}, resL P s l = some ps →
    ∃ vs : List Value, (l.mapM (resM a.tmps)).run P w = .ok vs w ∧ vs.length = ps.length ∧ ∀ j, j < ps.length → VR (env c β s.store w) (ps.getD j .any) (vs.getD j undef)
  | [], ps, h => by injection h with h; subst h; exact ⟨[], rfl, rfl, by simp⟩
  | x :: l, ps, h => by
    simp only [resL] at h
    split at h
    · rename_i p ps' h1 h2
      injection h with h; subst h
      obtain ⟨vs, k1, k2, k3⟩ := znm (P := P) hr h2
      have hx : ∃ v, (resM a.tmps x).run P w = .ok v w ∧ VR (env c β s.store w) p v := by
        cases x with
        | tmp t => injection h1 with h1; subst h1; exact ⟨_, rfl, hr.frame t⟩
        | cell q ty =>
          simp only [resV] at h1
          split at h1
          · rename_i b sz id ver off ha hz hp
            cases hl : live s.store id ver with
            | none => rw [hl] at h1; cases h1
            | some blk =>
              rw [hl] at h1
              simp only [Option.bind_some] at h1
              obtain ⟨hb, hv⟩ := zbh hl
              have hf := hr.frame q
              rw [hp] at hf
              obtain ⟨g, o, hβ, hv'⟩ := hf.pt_inv hb hv
              obtain ⟨_, cc, e, fz, hat⟩ := (hr.blocks id blk hb).at_ hβ
              obtain ⟨v, hrun, hq⟩ := zht h1 ha hz (hat.At off)
              exact ⟨v, by simp only [resM, hv', asAddr, Sem.run_bind, Sem.run_pure, Result.andThen_ok]; exact hrun, hq⟩
          · cases h1
      obtain ⟨v, m1, m2⟩ := hx
      refine ⟨v :: vs, ?_, by simp [k2], fun j hj => ?_⟩
      · simp only [List.mapM_cons, Sem.run_bind, m1, Result.andThen_ok, k1, Sem.run_pure]
      · cases j with
        | zero => simpa using m2
        | succ j => have := k3 j (by simpa using hj); simpa using this
    · cases h
theorem run_resA {P : Program} {c : Ctx} {β : Id → Option (Nat × Nat)} {s : St} {a : Act} {w : World} (hr : RelB c β s a w) {fn : Func} {p : PV} (h : resA P s fn.results.toList = some p) :
    ∃ v, (results fn a.tmps).run P w = .ok v w ∧ VR (env c β s.store w) p v := by
  unfold resA at h
  have key : ∀ ps, resL P s fn.results.toList = some ps → ∃ vs : List Value, (fn.results.mapM (resM a.tmps)).run P w = .ok vs.toArray w ∧ vs.length = ps.length ∧ ∀ j, j < ps.length → VR (env c β s.store w) (ps.getD j .any) (vs.getD j undef) := by
    intro ps hps
    obtain ⟨vs, k1, k2, k3⟩ := znm (P := P) hr hps
    refine ⟨vs, ?_, k2, k3⟩
    rw [Array.mapM_eq_mapM_toList, Sem.run_map, k1]
    rfl
  split at h
  · rename_i q hq
    injection h with h; subst h
    obtain ⟨vs, k1, k2, k3⟩ := key _ hq
    obtain ⟨v, rfl⟩ : ∃ v, vs = [v] := by
      match vs, k2 with
      | [v], _ => exact ⟨v, rfl⟩
    refine ⟨v, ?_, by simpa using k3 0 (by simp)⟩
    rw [ziy, Sem.run_bind, k1]
    simp
  · rename_i ps hne hq
    injection h with h; subst h
    obtain ⟨vs, k1, k2, k3⟩ := key _ hq
    refine ⟨.tuple vs.toArray, ?_, .tup _ _ (by simp [k2]) (fun j hj => by rw [zdh]; exact k3 j hj)⟩
    rw [ziy, Sem.run_bind, k1]
    have : ¬ vs.length = 1 := by
      intro e
      rw [k2] at e
      match ps, e with
      | [x], _ => exact hne x rfl
    simp [this]
  · cases h
def expN (σ : Id → Option Blk) (ret : List Id) (p : PV) : Option (PV × List Id) :=
  match p with
  | .nilS => some (.nilS, [])
  | p => expC σ ret p
theorem zqc {E E' : Env} {ret tl : List Id} {B : Nat} {I : Id → Nat → Prop} (X : ExpEnv E E' ret tl) (hblk : ∀ id blk, E.σ id = some blk → BlkRel E B I id blk) {p q : PV} {x : List Id} (hc : expN E.σ ret p = some (q, x)) (hsub : ∀ id ∈ x, id ∈ tl) {v : Value} (hv : VR E p v) : VR E' q v := by
  unfold expN at hc
  split at hc
  · injection hc with hc; injection hc with h1 h2; subst h1
    rw [hv.nilS_inv]; exact .nilS
  · exact zmv X hblk hc hsub hv
def expB (σ : Id → Option Blk) (ret : List Id) (blk : Blk) : Option (Blk × List Id) :=
  if blk.own = true then
    if blk.flat = true then some (blk, []) else (expL (expN σ ret) blk.cells).map fun (l, x) => ({ blk with cells := l }, x)
  else none
def expBs (σ : Id → Option Blk) (ret : List Id) : List Id → Option (List Blk × List Id)
  | [] => some ([], [])
  | id :: r => match (σ id).bind (expB σ ret), expBs σ ret r with
    | some (b, x), some (l, y) => some (b :: l, x ++ y)
    | _, _ => none
theorem zku {σ : Id → Option Blk} {ret : List Id} : ∀ {l : List Id} {rb : List Blk} {x : List Id}, expBs σ ret l = some (rb, x) → rb.length = l.length ∧ ∀ (j : Nat) (id : Id), l[j]? = some id → ∃ blk b y, σ id = some blk ∧ expB σ ret blk = some (b, y) ∧ rb[j]? = some b ∧ ∀ i ∈ y, i ∈ x
  | [], rb, x, h => by injection h with h; injection h with h1 h2; subst h1; exact ⟨rfl, by simp⟩
  | i :: l, rb, x, h => by
    simp only [expBs] at h
    split at h
    · rename_i b y l' z h1 h2
      injection h with h; injection h with e1 e2; subst e1; subst e2
      obtain ⟨k1, k2⟩ := zku h2
      refine ⟨by simp [k1], fun j id hj => ?_⟩
      cases j with
      | zero =>
        simp at hj; subst hj
        cases hs : σ i with
        | none => rw [hs] at h1; cases h1
        | some blk => rw [hs] at h1; exact ⟨blk, b, y, rfl, h1, by simp, fun i hi => by simp [hi]⟩
      | succ j =>
        obtain ⟨blk, b', y', m1, m2, m3, m4⟩ := k2 j id (by simpa using hj)
        exact ⟨blk, b', y', m1, m2, by simpa using m3, fun i hi => by simp [m4 i hi]⟩
    · cases h
theorem zbi {σ : Id → Option Blk} {ret : List Id} {blk b : Blk} {y : List Id} (h : expB σ ret blk = some (b, y)) : blk.own = true ∧ b.own = true ∧ b.ver = blk.ver ∧ b.flat = blk.flat ∧
    ((blk.flat = true ∧ b.cells = blk.cells) ∨ (blk.flat = false ∧ expL (expN σ ret) blk.cells = some (b.cells, y))) := by
  unfold expB at h
  split at h
  · rename_i ho
    split at h
    · rename_i hf
      injection h with h; injection h with h1 h2; subst h1
      exact ⟨ho, ho, rfl, rfl, .inl ⟨hf, rfl⟩⟩
    · rename_i hf
      cases hl : expL (expN σ ret) blk.cells with
      | none => rw [hl] at h; cases h
      | some lx =>
        obtain ⟨l, x⟩ := lx
        rw [hl] at h; injection h with h; injection h with h1 h2; subst h1; subst h2
        exact ⟨ho, ho, rfl, rfl, .inr ⟨by simpa using hf, rfl⟩⟩
  · cases h
structure EndS (P : Program) (fn : Func) (ib : List Blk) (r : PV) (rb : List Blk) (s : St) : Prop where
  mk :: (out : ∃ r0 ret tl tl', resA P s fn.results.toList = some r0 ∧ expP s.store ret r0 = some (r, tl) ∧ expBs s.store ret ret = some (rb, tl') ∧ ret.Nodup ∧ (∀ j, j < ib.length → ret[j]? = some ⟨0, 0, j⟩) ∧ (∀ id ∈ tl ++ tl', id ∉ ret))
def endQ (P : Program) (fn : Func) (ib : List Blk) (r : PV) (rb : List Blk) : Exit → St → Prop
  | .normal, s | .ret, s => EndS P fn ib r rb s
  | _, _ => False
def st0 (ps : List PV) (ib : List Blk) : St := ⟨fun t => ps.getD t .any, stOf ib, fun d => if d = 0 then 1 else 0⟩
theorem zdu {ib : List Blk} {id : Id} {blk : Blk} (h : stOf ib id = some blk) : id = ⟨0, 0, id.j⟩ ∧ ib[id.j]? = some blk := by
  unfold stOf at h
  split at h
  · rename_i hc
    obtain ⟨d, g, j⟩ := id
    simp at hc
    obtain ⟨rfl, rfl⟩ := hc
    exact ⟨rfl, h⟩
  · cases h
theorem zfv {l : List Id} (h : l.Nodup) : ∀ {i j : Nat} {a : Id}, l[i]? = some a → l[j]? = some a → i = j := by
  intro i j a hi hj
  obtain ⟨hi1, hi2⟩ := List.getElem?_eq_some_iff.1 hi
  obtain ⟨hj1, hj2⟩ := List.getElem?_eq_some_iff.1 hj
  exact (List.getElem_inj (h₀ := hi1) (h₁ := hj1) h).1 (hi2.trans hj2.symm)
theorem leave_of_end {P : Program} {fn : Func} {ib : List Blk} {r : PV} {rb : List Blk} {c : Ctx} {β0 β : Id → Option (Nat × Nat)} {s : St} {a : Act} {w : World}
    (hown : ∀ id g, c.I id g → (stOf ib id).isSome = true) (hr : RelB { c with nt := fn.ntmps, β0 := β0, v0 := fun id => (stOf ib id).map (·.ver) } β s a w) (h : EndS P fn ib r rb s) :
    ∃ v β', (results fn a.tmps).run P w = .ok v w ∧ Leave c β0 ib r rb β' v w := by
  obtain ⟨r0, ret, tl, tl', h1, h2, h3, h4, h5, h6⟩ := h.out
  obtain ⟨v, hv, hvr⟩ := run_resA hr h1
  obtain ⟨b1, b2⟩ := zku h3
  let β' : Id → Option (Nat × Nat) := fun id => if id.d = 0 ∧ id.g = 0 then (ret[id.j]?).bind β else none
  have hβ' : ∀ j id, ret[j]? = some id → β' ⟨0, 0, j⟩ = β id := by
    intro j id hj
    simp [β', hj]
  have hst : ∀ id b, stOf rb id = some b → ∃ id0 blk y, ret[id.j]? = some id0 ∧ s.store id0 = some blk ∧ expB s.store ret blk = some (b, y) ∧ (∀ i ∈ y, i ∈ tl') ∧ β' id = β id0 ∧ id = ⟨0, 0, id.j⟩ := by
    intro id b hb
    obtain ⟨e, hb⟩ := zdu hb
    have hlt : id.j < ret.length := by rw [← b1]; exact (List.getElem?_eq_some_iff.1 hb).1
    have hj : ret[id.j]? = some ret[id.j] := List.getElem?_eq_getElem hlt
    obtain ⟨blk, b', y, m1, m2, m3, m4⟩ := b2 _ _ hj
    rw [hb] at m3; injection m3 with m3; subst m3
    refine ⟨_, blk, y, hj, m1, m2, m4, ?_, e⟩
    exact (congrArg β' e).trans (hβ' _ _ hj)
  have X : ExpEnv (env { c with nt := fn.ntmps, β0 := β0, v0 := fun id => (stOf ib id).map (·.ver) } β s.store w) (env c β' (stOf rb) w) ret (tl ++ tl') := by
    refine ⟨rfl, ?_, ?_, ?_⟩
    · rintro g ⟨k1, k2, k3⟩
      refine ⟨k1, k2, fun id b o hb ho hbe => ?_⟩
      obtain ⟨id0, blk, y, m1, m2, m3, m4, m5, m6⟩ := hst id b hb
      obtain ⟨q1, q2, _⟩ := zbi m3
      rw [m5] at hbe
      exact k3 id0 blk o m2 q1 hbe
    · intro id hid blk g o hne hb hbe
      have hrel := hr.blocks id blk hb
      obtain ⟨hloc, _⟩ := hrel.at_ hbe
      have hB : c.w0.heap.size ≤ g := by
        rcases hloc with hloc | ⟨e1, e2, _⟩
        · exact hloc
        · rcases hne with hne | hne
          · exact absurd e1 hne
          · exact absurd e2 hne
      refine ⟨hrel.lt hbe, .inr hB, fun id' b o' hb' ho' hbe' => ?_⟩
      obtain ⟨id0, blk0, y, m1, m2, m3, m4, m5, m6⟩ := hst id' b hb'
      obtain ⟨q1, q2, _⟩ := zbi m3
      rw [m5] at hbe'
      have := hr.inj id0 id blk0 blk g o' o m2 hb q1 hbe' hbe
      subst this
      exact h6 _ hid (List.mem_of_getElem? m1)
    · intro j id hj blk hb
      obtain ⟨blk', b, y, m1, m2, m3, m4⟩ := b2 j id hj
      rw [show (env { c with nt := fn.ntmps, β0 := β0, v0 := fun id => (stOf ib id).map (·.ver) } β s.store w).σ id = s.store id from rfl, m1] at hb
      injection hb with hb; subst hb
      obtain ⟨q1, q2, q3, _⟩ := zbi m2
      refine ⟨b, ?_, q3, hβ' j id hj⟩
      show stOf rb ⟨0, 0, j⟩ = some b
      simp [stOf, m3]
  refine ⟨v, β', hv, hr.keeps, expP_VR X hr.blocks h2 (fun id hid => by simp [hid]) hvr, ⟨?_, ?_⟩, ?_⟩
  · intro id b hb
    obtain ⟨id0, blk, y, m1, m2, m3, m4, m5, m6⟩ := hst id b hb
    obtain ⟨q1, q2, q3, q4, q5⟩ := zbi m3
    have hrel := hr.blocks id0 blk m2
    cases hbe : β id0 with
    | none =>
      unfold BlkRel at hrel ⊢
      have e1 : (env { c with nt := fn.ntmps, β0 := β0, v0 := fun id => (stOf ib id).map (·.ver) } β s.store w).β id0 = none := hbe
      have e2 : (env c β' (stOf rb) w).β id = none := by show β' id = none; rw [m5, hbe]
      rw [e1] at hrel
      rw [e2]
      simp only at hrel ⊢
      rcases q5 with ⟨_, q5⟩ | ⟨_, q5⟩
      · rw [q5]; exact hrel
      · rw [hrel] at q5; simp [expL] at q5; exact q5.1
    | some go =>
      obtain ⟨g, o⟩ := go
      obtain ⟨hloc, cc, e, fz, hat⟩ := hrel.at_ (g := g) (o := o) hbe
      have hclen : b.cells.length = blk.cells.length := by
        rcases q5 with ⟨_, q5⟩ | ⟨_, q5⟩
        · rw [q5]
        · exact (zfi (E := (env c β' (stOf rb) w)) (E' := (env c β' (stOf rb) w)) (tl := y) (g := fun p => (expN s.store ret p).map fun (q, x) => (.any, x)) (fun p q x v hx _ _ => by
            cases hh : expN s.store ret p with
            | none => rw [hh] at hx; cases hx
            | some z => rw [hh] at hx; injection hx with hx; injection hx with hx _; subst hx; exact .any _) (ps := blk.cells) (qs := b.cells.map fun _ => .any) (x := y) (by
            clear hat hrel m3 m2
            revert q5
            generalize blk.cells = L
            generalize b.cells = M
            intro q5
            clear m4
            induction L generalizing M y with
            | nil => injection q5 with q5; injection q5 with q5 q6; subst q5; subst q6; rfl
            | cons p L ih =>
              simp only [expL] at q5 ⊢
              split at q5
              · rename_i q x1 l z w1 w2
                injection q5 with q5; injection q5 with q5 q6; subst q5; subst q6
                rw [w1, ih z l w2]
                rfl
              · cases q5) (fun id hid => hid)).1.symm ▸ (by simp)
      refine BlkAt.rel (g := g) (o := o) (c := cc) (e := e) (fz := fz) ⟨hat.heap, fun _ => hat.own q1, by rw [hclen]; exact hat.size, fun j hj => ?_, fun j hj => hat.one j (by omega)⟩ (by show β' id = some (g, o); rw [m5, hbe]) ?_
      · rw [hclen] at hj
        rw [q4]
        have hc := hat.cell j hj
        rcases q5 with ⟨f1, q5⟩ | ⟨f1, q5⟩
        · rw [if_pos f1] at hc ⊢
          rw [q5]
          exact hc.mono X.bare
        · simp only [f1, Bool.false_eq_true, if_false] at hc ⊢
          exact (zfi (fun p q x v hx hsub hp => zqc X hr.blocks hx hsub hp) q5 (fun id hid => by simp [m4 id hid])).2 j hj _ hc
      · rcases hloc with hloc | ⟨e1, e2, e3⟩
        · exact .inl hloc
        · refine .inr ?_
          have hs := hown id0 g e3
          obtain ⟨b0, hb0⟩ := Option.isSome_iff_exists.1 hs
          obtain ⟨ee, hb0⟩ := zdu hb0
          have hlt := (List.getElem?_eq_some_iff.1 hb0).1
          have := zfv h4 (h5 id0.j hlt) (by rw [← ee]; exact m1)
          rw [m6, ← this, ← ee]
          exact ⟨e1, e2, e3⟩
  · intro id id' b b' g o o' hb hb' ho hbe hbe'
    obtain ⟨id0, blk, y, m1, m2, m3, m4, m5, m6⟩ := hst id b hb
    obtain ⟨id1, blk1, y1, n1, n2, n3, n4, n5, n6⟩ := hst id' b' hb'
    obtain ⟨q1, _⟩ := zbi m3
    have hbe : β' id = some (g, o) := hbe
    have hbe' : β' id' = some (g, o') := hbe'
    rw [m5] at hbe
    rw [n5] at hbe'
    have e := hr.inj id0 id1 blk blk1 g o o' m2 n2 q1 hbe hbe'
    subst e
    have := zfv h4 m1 n1
    rw [m6, n6, this]
  · intro id blk hb
    obtain ⟨ee, hb'⟩ := zdu hb
    have hlt := (List.getElem?_eq_some_iff.1 hb').1
    have hj := h5 id.j hlt
    rw [← ee] at hj
    obtain ⟨blk1, k1, k2, k3⟩ := hr.io id blk.ver (by show (stOf ib id).map (·.ver) = some blk.ver; rw [hb]; rfl)
    obtain ⟨blk', b, y, m1, m2, m3, m4⟩ := b2 _ _ hj
    rw [k1] at m1; injection m1 with m1; subst m1
    obtain ⟨q1, q2, q3, _⟩ := zbi m2
    refine ⟨b, ?_, by omega, fun e => ?_⟩
    · rw [ee]; simp [stOf, m3]
    · rw [ee, hβ' _ _ hj, ← ee]
      exact k3 (by omega)
theorem CallOk.of_wp {P : Program} {f : FuncId} {fn : Func} {code : Code} {ps : List PV} {ib : List Blk} {r : PV} {rb : List Blk} (hf : P.funcs[f]? = some fn) (hb : fn.body = some code) (hn : ps.length ≤ fn.ntmps)
    (h : WP P fn.ntmps code (endQ P fn ib r rb) (st0 ps ib)) : CallOk P f ps ib r rb := by
  intro c β0 args hE
  refine calls_of_wp hf hb ?_
  have hrel : RelB { c with nt := fn.ntmps, β0 := β0, v0 := fun id => (stOf ib id).map (·.ver) } β0 (st0 ps ib) { tmps := args ++ Array.replicate (fn.ntmps - args.size) undef, defers := [] } c.w0 := by
    refine ⟨Keeps.refl _ _ _, by simp [hE.size]; omega, rfl, fun t => ?_, hE.st.1, hE.st.2, fun id blk hb => ?_, fun id n hn => ?_⟩
    · by_cases ht : t < ps.length
      · have := hE.vr t ht
        have e : (args ++ Array.replicate (fn.ntmps - args.size) undef).getD t undef = args.getD t undef := by
          rw [Array.getD_eq_getD_getElem?, Array.getD_eq_getD_getElem?, Array.getElem?_append_left (by rw [hE.size]; exact ht)]
        rw [e]
        exact this
      · have : (st0 ps ib).frame t = .any := by simp [st0, List.getD, List.getElem?_eq_none (Nat.le_of_not_lt ht)]
        rw [this]
        exact .any _
    · obtain ⟨e, _⟩ := zdu hb
      rw [e]; simp [st0]
    · cases hs : stOf ib id with
      | none => simp [hs] at hn
      | some blk => simp [hs] at hn; exact ⟨blk, hs, by omega, fun _ => rfl⟩
  refine wp_mono (h _ _ _ rfl ⟨β0, hrel⟩) fun e a w ⟨s', hq, hr'⟩ => ?_
  obtain ⟨β, hr'⟩ := hr'
  cases e <;> simp only [endQ] at hq <;> try exact hq.elim
  all_goals
    obtain ⟨v, β', h1, h2⟩ := leave_of_end hE.own hr' hq
    exact ⟨hr'.defers, v, h1, v, β', rfl, h2⟩
end Go.Proofs.YthgldcflcmlgpaaGreatDoorE
end
section
/- A call, by its contract. -/
set_option linter.unusedVariables false
set_option linter.unusedSimpArgs false
namespace Go.Proofs.YthgldcflcmlgpaaGreatDoorE
open Go.RowKit
def FnOk (P : Program) (f : FuncId) : Prop := ∃ fn, P.funcs[f]? = some fn ∧ fn.body.isSome = true ∧ (fn.name == "runtime.NumGoroutine") = false
def nid (io : List Id) (d g j : Nat) : Id := (io[j]?).getD ⟨d, g, j⟩
def renI (io : List Id) (d g : Nat) (id : Id) : Id := nid io d g id.j
def renC (io : List Id) (d g : Nat) : PV → PV
  | .sl id ver off n sz => .sl (renI io d g id) ver off n sz
  | .pt id ver off => .pt (renI io d g id) ver off
  | p => p
def renA (io : List Id) (d g : Nat) : PV → PV
  | .agg l => .agg (l.map (renC io d g))
  | p => renC io d g p
def renP (io : List Id) (d g : Nat) : PV → PV
  | .tup l => .tup (l.map (renA io d g))
  | p => renA io d g p
def renB (io : List Id) (d g : Nat) (b : Blk) : Blk := if b.flat = true then b else { b with cells := b.cells.map (renC io d g) }
def newL (io : List Id) (d g : Nat) : List Blk → Nat → List (Id × Blk)
  | [], _ => []
  | b :: r, j => (nid io d g j, renB io d g b) :: newL io d g r (j + 1)
def scalarB : PV → Bool
  | .any | .nilP | .nilI | .nilF | .int _ _ | .bool _ | .str _ => true
  | _ => false
def scalarA : PV → Bool
  | .agg l => l.all scalarB
  | p => scalarB p
def scalarP : PV → Bool
  | .tup l => l.all scalarA
  | p => scalarA p
def cellB : PV → Bool
  | .agg _ | .tup _ => false
  | .fn _ [] [] => true
  | .fn _ _ _ => false
  | _ => true
def cellA : PV → Bool
  | .agg l => l.all cellB
  | p => cellB p
def cellP : PV → Bool
  | .tup l => l.all cellA
  | p => cellA p
structure RenEnv (E E' : Env) (io : List Id) (d g : Nat) : Prop where
  w : E'.w = E.w
  D : ∀ g, E.D g → E'.D g
  st : ∀ id blk, E.σ id = some blk → ∃ blk', E'.σ (renI io d g id) = some blk' ∧ blk'.ver = blk.ver ∧ E'.β (renI io d g id) = E.β id
theorem RenEnv.bare {E E' : Env} {io : List Id} {d g : Nat} (X : RenEnv E E' io d g) : E.bare.Le E'.bare :=
  ⟨X.D, fun g _ => by simp [Env.bare, X.w], fun g N h => by simpa [Env.bare, X.w] using h, fun id blk h => by simp [Env.bare] at h⟩
section
variable {E E' : Env} {io : List Id} {d g : Nat}
theorem zmn (X : RenEnv E E' io d g) {p : PV} {v : Value} (hc : cellB p = true) (h : VR E p v) : VR E' (renC io d g p) v := by
  cases p with
  | any => exact .any _
  | nilS => rw [h.nilS_inv]; exact .nilS
  | nilP => rw [h.nilP_inv]; exact .nilP
  | nilI => rw [h.nilI_inv]; exact .nilI
  | nilF => rw [h.nilF_inv]; exact .nilF
  | int k n => rw [h.int_inv]; exact .int _ _
  | bool b => rw [h.bool_inv]; exact .bool _
  | str s => rw [h.str_inv]; exact .str _
  | agg l => simp [cellB] at hc
  | tup l => simp [cellB] at hc
  | rd l n => exact (h.rd_bare.mono X.bare).of_bare
  | rp l => exact (h.rp_bare.mono X.bare).of_bare
  | sl id ver off n sz =>
    obtain ⟨blk, hb, hle⟩ := h.sl_dom
    obtain ⟨blk', b1, b2, b3⟩ := X.st id blk hb
    refine .sl _ _ _ _ _ _ blk' b1 (by omega) (fun e => ?_) (h.leaf_one rfl)
    rw [b3, X.w]
    exact h.sl_inv hb (by omega)
  | pt id ver off =>
    obtain ⟨blk, hb, hle⟩ := h.pt_dom
    obtain ⟨blk', b1, b2, b3⟩ := X.st id blk hb
    refine .pt _ _ _ _ blk' b1 (by omega) (fun e => ?_) (h.leaf_one rfl)
    rw [b3]
    exact h.pt_inv hb (by omega)
  | fn f fs cs =>
    cases fs with
    | cons a l => simp [cellB] at hc
    | nil => cases cs with
      | cons a l => simp [cellB] at hc
      | nil => cases h with | fn f fs cs va vb h1 h2 h3 h4 => exact .fn _ _ _ _ _ h1 h2 (by simp) (by simp)
theorem zfy {f : PV → PV} (l : List PV) (j : Nat) (h : j < l.length) : (l.map f).getD j .any = f (l.getD j .any) := by simp [List.getD, h]
theorem zgc {f : PV → Bool} {l : List PV} (h : l.all f = true) {j : Nat} (hj : j < l.length) : f (l.getD j .any) = true := by
  have := List.all_eq_true.1 h (l.getD j .any) (by simp only [List.getD, List.getElem?_eq_getElem hj, Option.getD_some]; exact List.getElem_mem hj)
  exact this
theorem zpn (X : RenEnv E E' io d g) {p : PV} {v : Value} (hc : cellA p = true) (h : VR E p v) : VR E' (renA io d g p) v := by
  unfold cellA at hc
  split at hc
  · rename_i l
    obtain ⟨cs, rfl, h1, h2, h3⟩ := h.agg_inv
    refine .agg _ _ (by simp [h1]) (fun j hj => ?_) fun j hj => h3 j (by simpa using hj)
    simp at hj
    rw [zfy _ _ hj]
    exact zmn X (zgc hc hj) (h2 j hj)
  · rename_i hne
    unfold renA
    split
    · rename_i l; exact absurd rfl (hne l)
    · exact zmn X hc h
theorem renP_VR (X : RenEnv E E' io d g) {p : PV} {v : Value} (hc : cellP p = true) (h : VR E p v) : VR E' (renP io d g p) v := by
  unfold cellP at hc
  split at hc
  · rename_i l
    obtain ⟨cs, rfl, h1, h2⟩ := h.tup_inv
    refine .tup _ _ (by simp [h1]) (fun j hj => ?_)
    simp at hj
    rw [zfy _ _ hj]
    exact zpn X (zgc hc hj) (h2 j hj)
  · rename_i hne
    unfold renP
    split
    · rename_i l; exact absurd rfl (hne l)
    · exact zpn X hc h
theorem ziu {p : PV} {v : Value} (hc : scalarB p = true) (h : VR E p v) : VR E' (renC io d g p) v := by
  cases p with
  | any => exact .any _
  | nilP => rw [h.nilP_inv]; exact .nilP
  | nilI => rw [h.nilI_inv]; exact .nilI
  | nilF => rw [h.nilF_inv]; exact .nilF
  | int k n => rw [h.int_inv]; exact .int _ _
  | bool b => rw [h.bool_inv]; exact .bool _
  | str s => rw [h.str_inv]; exact .str _
  | _ => simp [scalarB] at hc
theorem ziv {p : PV} {v : Value} (hc : scalarA p = true) (h : VR E p v) : VR E' (renA io d g p) v := by
  unfold scalarA at hc
  split at hc
  · rename_i l
    obtain ⟨cs, rfl, h1, h2, h3⟩ := h.agg_inv
    refine .agg _ _ (by simp [h1]) (fun j hj => ?_) fun j hj => h3 j (by simpa using hj)
    simp at hj
    rw [zfy _ _ hj]
    exact ziu (zgc hc hj) (h2 j hj)
  · rename_i hne
    unfold renA
    split
    · rename_i l; exact absurd rfl (hne l)
    · exact ziu hc h
theorem scalarP_VR {p : PV} {v : Value} (hc : scalarP p = true) (h : VR E p v) : VR E' (renP io d g p) v := by
  unfold scalarP at hc
  split at hc
  · rename_i l
    obtain ⟨cs, rfl, h1, h2⟩ := h.tup_inv
    refine .tup _ _ (by simp [h1]) (fun j hj => ?_)
    simp at hj
    rw [zfy _ _ hj]
    exact ziv (zgc hc hj) (h2 j hj)
  · rename_i hne
    unfold renP
    split
    · rename_i l; exact absurd rfl (hne l)
    · exact ziv hc h
end
theorem zlr {io : List Id} {d g : Nat} {σ : Id → Option Blk} {l : List (Id × Blk)} : ∀ (rb : List Blk) (k : Nat) (id : Id),
    (∃ j b, rb[j]? = some b ∧ id = nid io d g (k + j) ∧ wrs σ (newL io d g rb k ++ l) id = some (renB io d g b)) ∨ ((∀ j, j < rb.length → id ≠ nid io d g (k + j)) ∧ wrs σ (newL io d g rb k ++ l) id = wrs σ l id)
  | [], k, id => .inr ⟨by simp, rfl⟩
  | b :: rb, k, id => by
    have hw : wrs σ (newL io d g (b :: rb) k ++ l) = updI (wrs σ (newL io d g rb (k + 1) ++ l)) (nid io d g k) (some (renB io d g b)) := rfl
    rw [hw]
    by_cases e : id = nid io d g k
    · subst e
      exact .inl ⟨0, b, by simp, by simp, by simp⟩
    · rw [zan _ _ _ _ e]
      rcases zlr rb (k + 1) id with ⟨j, b', h1, h2, h3⟩ | ⟨h1, h2⟩
      · exact .inl ⟨j + 1, b', by simpa using h1, by rw [h2]; congr 1; omega, h3⟩
      · refine .inr ⟨fun j hj => ?_, h2⟩
        cases j with
        | zero => simpa using e
        | succ j => have := h1 j (by simpa using hj); rwa [show k + 1 + j = k + (j + 1) by omega] at this
end Go.Proofs.YthgldcflcmlgpaaGreatDoorE
end
section
/- A call, by its contract: the effect. -/
set_option linter.unusedVariables false
set_option linter.unusedSimpArgs false
namespace Go.Proofs.YthgldcflcmlgpaaGreatDoorE
open Go.RowKit
theorem zgv {l : List Id} {id : Id} {j : Nat} (h : idx l id 0 = some j) : id ∈ l := by
  obtain ⟨_, h⟩ := zhf l id 0 j h
  exact List.mem_of_getElem? (by simpa using h)
theorem zgo {σ σ' : Id → Option Blk} {ret : List Id} {p q : PV} {x : List Id} (h : expC σ ret p = some (q, x)) (hr : ∀ id ∈ ret, σ' id = σ id) (hs : ∀ id ∈ x, σ' id = σ id) : expC σ' ret p = some (q, x) := by
  unfold expC at *
  split at h <;> first | exact h | skip
  · rename_i id ver off n sz
    split at h
    · rename_i blk hl
      split at h
      · rename_i j hj
        rw [zbf (hr id (zgv hj)), hl]
        simp only [hj]
        exact h
      · rename_i hj
        split at h
        · rename_i hc
          injection h with h; injection h with h1 h2
          rw [zbf (hs id (by simp [← h2])), hl]
          subst h1; subst h2
          simp only [hj, if_pos hc]
        · cases h
    · cases h
  · rename_i id ver off
    split at h
    · rename_i blk hl
      split at h
      · rename_i j hj
        rw [zbf (hr id (zgv hj)), hl]
        simp only [hj]
        exact h
      · rename_i hj
        split at h
        · rename_i hc
          cases hf : flatCs σ blk.cells with
          | none => rw [hf] at h; cases h
          | some y =>
            obtain ⟨qs, ids⟩ := y
            rw [hf] at h
            injection h with h; injection h with h1 h2
            rw [zbf (hs id (by simp [← h2])), hl]
            simp only [hj, if_pos hc, zdk hf (fun i hi => hs i (by simp [← h2, hi])), Option.map_some, h1, h2]
        · cases h
    · cases h
theorem expN_congr {σ σ' : Id → Option Blk} {ret : List Id} {p q : PV} {x : List Id} (h : expN σ ret p = some (q, x)) (hr : ∀ id ∈ ret, σ' id = σ id) (hs : ∀ id ∈ x, σ' id = σ id) : expN σ' ret p = some (q, x) := by
  unfold expN at *
  split at h
  · exact h
  · exact zgo h hr hs
theorem zfa {g g' : PV → Option (PV × List Id)} {ok : Id → Prop} (hg : ∀ p q x, g p = some (q, x) → (∀ id ∈ x, ok id) → g' p = some (q, x)) : ∀ {ps qs : List PV} {x : List Id}, expL g ps = some (qs, x) → (∀ id ∈ x, ok id) → expL g' ps = some (qs, x)
  | [], qs, x, h, _ => h
  | p :: ps, qs, x, h, hs => by
    simp only [expL] at *
    split at h
    · rename_i q x1 l y h1 h2
      injection h with h; injection h with e1 e2; subst e1; subst e2
      rw [hg _ _ _ h1 (fun id hid => hs id (by simp [hid])), zfa hg h2 (fun id hid => hs id (by simp [hid]))]
    · cases h
theorem expA_congr {σ σ' : Id → Option Blk} {ret : List Id} {p q : PV} {x : List Id} (h : expA σ ret p = some (q, x)) (hr : ∀ id ∈ ret, σ' id = σ id) (hs : ∀ id ∈ x, σ' id = σ id) : expA σ' ret p = some (q, x) := by
  unfold expA at *
  split at h
  · rename_i l
    cases hl : expL (expC σ ret) l with
    | none => rw [hl] at h; cases h
    | some y =>
      obtain ⟨qs, ids⟩ := y
      rw [hl] at h; injection h with h; injection h with h1 h2; subst h1; subst h2
      simp only
      rw [zfa (ok := fun id => σ' id = σ id) (fun p q x h1 h2 => zgo h1 hr h2) hl hs]
      rfl
  · exact zgo h hr hs
theorem expB_congr {σ σ' : Id → Option Blk} {ret : List Id} {blk b : Blk} {y : List Id} (h : expB σ ret blk = some (b, y)) (hr : ∀ id ∈ ret, σ' id = σ id) (hs : ∀ id ∈ y, σ' id = σ id) : expB σ' ret blk = some (b, y) := by
  unfold expB at *
  split at h
  · rename_i ho
    rw [if_pos ho]
    split at h
    · rename_i hf; rw [if_pos hf]; exact h
    · rename_i hf
      rw [if_neg hf]
      cases hl : expL (expN σ ret) blk.cells with
      | none => rw [hl] at h; cases h
      | some lx =>
        obtain ⟨l, x⟩ := lx
        rw [hl] at h; injection h with h; injection h with h1 h2; subst h1; subst h2
        rw [zfa (ok := fun id => σ' id = σ id) (fun p q x h1 h2 => expN_congr h1 hr h2) hl hs]
        rfl
  · cases h
theorem zih {σ σ' : Id → Option Blk} {ret : List Id} (hr : ∀ id ∈ ret, σ' id = σ id) : ∀ {l : List Id} {rb : List Blk} {x : List Id}, expBs σ ret l = some (rb, x) → (∀ id ∈ l, σ' id = σ id) → (∀ id ∈ x, σ' id = σ id) → expBs σ' ret l = some (rb, x)
  | [], rb, x, h, _, _ => h
  | i :: l, rb, x, h, hl, hs => by
    simp only [expBs] at *
    split at h
    · rename_i b y l' z h1 h2
      injection h with h; injection h with e1 e2; subst e1; subst e2
      rw [hl i (by simp)]
      cases hi : σ i with
      | none => rw [hi] at h1; cases h1
      | some blk =>
        rw [hi] at h1
        have h1 : expB σ ret blk = some (b, y) := h1
        simp only [Option.bind_some]
        rw [expB_congr h1 hr (fun id hid => hs id (by simp [hid])), zih hr h2 (fun id hid => hl id (by simp [hid])) (fun id hid => hs id (by simp [hid]))]
    · cases h
theorem VR.fn_inv {E : Env} {f : FuncId} {v : Value} (h : VR E (.fn f [] []) v) : v = .func (.func f) #[] #[] := by
  cases h with | fn f fs cs va vb k1 k2 k3 k4 =>
    rw [Array.eq_empty_of_size_eq_zero k1, Array.eq_empty_of_size_eq_zero k2]
theorem run_callv {P : Program} {o : Oper} {a : Act} {w : World} {x : Operand} {args : Array Operand} {at_ : Array TypeId} {f : FuncId} (ho : o.op = .call { callee := .value x, args := args, argTypes := at_ }) (hx : a.eval x = .func (.func f) #[] #[]) (hf : FnOk P f) :
    (execOp a.eval o).run P w = .ok (.enter f (args.map a.eval)) w := by
  obtain ⟨fn, h1, h2, h3⟩ := hf
  have h2' : ¬ fn.body = none := by intro e; rw [e] at h2; cases h2
  have h3' : ¬ fn.name = "runtime.NumGoroutine" := by simpa using h3
  unfold execOp
  simp only [ho, resolve, hx, Deferred.ofValue, Sem.run_bind, Sem.run_pure, Result.andThen_ok, invoke, callFunc, Array.empty_append, Array.append_empty]
  simp [h1, h2', h3', program, Sem.run]
def callE (io tl : List Id) (d g : Nat) (r : PV) (rb : List Blk) (fz : Bool) (σ : Id → Option Blk) : Eff :=
  ⟨renP io d g r, io ++ tl, newL io d g rb 0 ++ (if fz then frzL σ tl else []), decide (io.length < rb.length)⟩
theorem call_sim {P : Program} {o : Oper} {s : St} {f : FuncId} {x : Operand} {args : Array Operand} {at_ : Array TypeId} (ho : o.op = .call { callee := .value x, args := args, argTypes := at_ }) (hx : pv s.frame x = .fn f [] []) (hf : FnOk P f)
    {io tl1 tl2 : List Id} {ps : List PV} {ib rb : List Blk} {r : PV} (h1 : expL (expA s.store io) (args.toList.map (pv s.frame)) = some (ps, tl1)) (h2 : expBs s.store io io = some (ib, tl2)) (hn : io.Nodup) (hni : ∀ id ∈ tl1 ++ tl2, id ∉ io)
    (hc : CallOk P f ps ib r rb) (hcr : cellP r = true) (hcb : ∀ b ∈ rb, b.flat = true ∨ b.cells.all cellB = true) (hlen : io.length ≤ rb.length) (hd : rb.length = io.length ∨ o.dst ≠ none) {fz : Bool} (hfz : fz = true ∨ (rb = [] ∧ scalarP r = true)) :
    Sim P o s (callE io (tl1 ++ tl2) (o.dst.getD 0) (s.gens (o.dst.getD 0)) r rb fz s.store) := by
  intro c a w K Q hr hnt hK
  obtain ⟨β, hr⟩ := hr
  generalize hd0 : o.dst.getD 0 = d at *
  generalize hg0 : s.gens d = g at *
  obtain ⟨b1, b2⟩ := zku h2
  have hxv := zbs hr.frame x
  rw [hx] at hxv
  have hxv : a.eval x = .func (.func f) #[] #[] := hxv.fn_inv
  -- the callee's view
  let β0 : Id → Option (Nat × Nat) := fun id => if id.d = 0 ∧ id.g = 0 then (io[id.j]?).bind β else none
  have hβ0 : ∀ (j : Nat) (id : Id), io[j]? = some id → β0 ⟨0, 0, j⟩ = β id := by intro j id hj; simp [β0, hj]
  have hst : ∀ id b, stOf ib id = some b → ∃ id0 blk y, io[id.j]? = some id0 ∧ s.store id0 = some blk ∧ expB s.store io blk = some (b, y) ∧ (∀ i ∈ y, i ∈ tl2) ∧ β0 id = β id0 ∧ id = ⟨0, 0, id.j⟩ := by
    intro id b hb
    obtain ⟨e, hb⟩ := zdu hb
    have hlt : id.j < io.length := by rw [← b1]; exact (List.getElem?_eq_some_iff.1 hb).1
    have hj : io[id.j]? = some io[id.j] := List.getElem?_eq_getElem hlt
    obtain ⟨blk, b', y, m1, m2, m3, m4⟩ := b2 _ _ hj
    rw [hb] at m3; injection m3 with m3; subst m3
    refine ⟨_, blk, y, hj, m1, m2, m4, ?_, e⟩
    exact (congrArg β0 e).trans (hβ0 _ _ hj)
  let tlS : Nat → Prop := fun g => ∃ id ∈ tl1 ++ tl2, (id.d ≠ 0 ∨ id.g ≠ 0) ∧ ∃ blk o, s.store id = some blk ∧ β id = some (g, o)
  let c' : Ctx := ⟨w, fun id g => ∃ b o, stOf ib id = some b ∧ β0 id = some (g, o), fun g => (env c β s.store w).D g ∨ tlS g, 0, β0, fun _ => none⟩
  have X : ExpEnv (env c β s.store w) (env c' β0 (stOf ib) w) io (tl1 ++ tl2) := by
    refine ⟨rfl, ?_, ?_, ?_⟩
    · intro g hD
      refine ⟨hD.1, .inl (.inl hD), fun id b o hb ho hbe => ?_⟩
      obtain ⟨id0, blk, y, m1, m2, m3, m4, m5, m6⟩ := hst id b hb
      obtain ⟨q1, _⟩ := zbi m3
      rw [m5] at hbe
      exact hD.2.2 id0 blk o m2 q1 hbe
    · intro id hid blk g o hne hb hbe
      refine ⟨(hr.blocks id blk hb).lt hbe, .inl (.inr ⟨id, hid, hne, blk, o, hb, hbe⟩), fun id' b o' hb' ho' hbe' => ?_⟩
      obtain ⟨id0, blk0, y, m1, m2, m3, m4, m5, m6⟩ := hst id' b hb'
      obtain ⟨q1, _⟩ := zbi m3
      rw [m5] at hbe'
      have := hr.inj id0 id blk0 blk g o' o m2 hb q1 hbe' hbe
      subst this
      exact hni _ hid (List.mem_of_getElem? m1)
    · intro j id hj blk hb
      obtain ⟨blk', b, y, m1, m2, m3, m4⟩ := b2 j id hj
      rw [show (env c β s.store w).σ id = s.store id from rfl, m1] at hb
      injection hb with hb; subst hb
      obtain ⟨q1, q2, q3, _⟩ := zbi m2
      exact ⟨b, by show stOf ib ⟨0, 0, j⟩ = some b; simp [stOf, m3], q3, hβ0 j id hj⟩
  obtain ⟨p1, p2⟩ := zfi (tl := tl1 ++ tl2) (fun p q x v hx hsub hp => zmw X hr.blocks hx hsub hp) h1 (fun id hid => by simp [hid])
  have hE : Entry c' β0 ps ib (args.map a.eval) := by
    refine ⟨by rw [p1]; simp, fun j hj => ?_, ⟨fun id b hb => ?_, fun id id' b b' g o o' hb hb' ho hbe hbe' => ?_⟩, fun id g hI => ?_⟩
    · have hlist := zro hr.frame args j (by omega)
      exact p2 j (by omega) _ hlist
    · obtain ⟨id0, blk, y, m1, m2, m3, m4, m5, m6⟩ := hst id b hb
      obtain ⟨q1, q2, q3, q4, q5⟩ := zbi m3
      have hrel := hr.blocks id0 blk m2
      cases hbe : β id0 with
      | none =>
        unfold BlkRel at hrel ⊢
        have e1 : (env c β s.store w).β id0 = none := hbe
        have e2 : (env c' β0 (stOf ib) c'.w0).β id = none := by show β0 id = none; rw [m5, hbe]
        rw [e1] at hrel
        rw [e2]
        simp only at hrel ⊢
        rcases q5 with ⟨_, q5⟩ | ⟨_, q5⟩
        · rw [q5]; exact hrel
        · rw [hrel] at q5; simp [expL] at q5; exact q5.1
      | some go =>
        obtain ⟨g, o⟩ := go
        obtain ⟨hloc, cc, e, fz, hat⟩ := hrel.at_ (g := g) (o := o) hbe
        have hcells : b.cells.length = blk.cells.length ∧ ∀ j, j < blk.cells.length → VR (if b.flat then (env c' β0 (stOf ib) w).bare else env c' β0 (stOf ib) w) (b.cells.getD j .any) (cc.getD (o + j) undef) := by
          rcases q5 with ⟨f1, q5⟩ | ⟨f1, q5⟩
          · rw [q5, q4]
            refine ⟨rfl, fun j hj => ?_⟩
            have hc := hat.cell j hj
            rw [if_pos f1] at hc ⊢
            exact hc.mono X.bare
          · obtain ⟨k1, k2⟩ := zfi (tl := tl1 ++ tl2) (fun p q x v hx hsub hp => zqc X hr.blocks hx hsub hp) q5 (fun id hid => by simp [m4 id hid])
            refine ⟨k1, fun j hj => ?_⟩
            have hc := hat.cell j hj
            rw [q4]
            simp only [f1, Bool.false_eq_true, if_false] at hc ⊢
            exact k2 j hj _ hc
        exact BlkAt.rel (g := g) (o := o) (c := cc) (e := e) (fz := fz) ⟨hat.heap, fun _ => hat.own q1, by rw [hcells.1]; exact hat.size, fun j hj => hcells.2 j (by omega), fun j hj => hat.one j (by omega)⟩ (by show β0 id = some (g, o); rw [m5, hbe])
          (.inr ⟨by rw [m6], by rw [m6], b, o, hb, by rw [m5, hbe]⟩)
    · obtain ⟨id0, blk, y, m1, m2, m3, m4, m5, m6⟩ := hst id b hb
      obtain ⟨id1, blk1, y1, n1, n2, n3, n4, n5, n6⟩ := hst id' b' hb'
      obtain ⟨q1, _⟩ := zbi m3
      have hbe : β0 id = some (g, o) := hbe
      have hbe' : β0 id' = some (g, o') := hbe'
      rw [m5] at hbe
      rw [n5] at hbe'
      have e := hr.inj id0 id1 blk blk1 g o o' m2 n2 q1 hbe hbe'
      subst e
      have := zfv hn m1 n1
      rw [m6, n6, this]
    · obtain ⟨b, o, hb, _⟩ := hI
      rw [hb]; rfl
  have hcall := hc c' β0 (args.map a.eval) hE
  unfold Oper.wp
  rw [run_callv ho hxv hf]
  simp only [Oper.upon]
  refine hcall.mono fun e w' hpost => ?_
  obtain ⟨v, β1, rfl, hL⟩ := hpost
  simp only
  -- the caller's view of what came back
  have hnew_no : ∀ j, s.store ⟨d, g, j⟩ = none := fun j => by rw [← hg0]; exact St.no_new hr d j
  have hio_st : ∀ (j : Nat) (id : Id), io[j]? = some id → ∃ blk, s.store id = some blk ∧ blk.own = true := by
    intro j id hj
    obtain ⟨blk, b, y, m1, m2, _⟩ := b2 j id hj
    exact ⟨blk, m1, (zbi m2).1⟩
  have hnid_inj : ∀ i j, i < rb.length → j < rb.length → nid io d g i = nid io d g j → i = j := by
    intro i j hi hj e
    unfold nid at e
    cases h1 : io[i]? with
    | none =>
      cases h2 : io[j]? with
      | none => rw [h1, h2] at e; simpa using e
      | some b =>
        rw [h1, h2] at e
        simp at e
        obtain ⟨blk, hb, _⟩ := hio_st j b h2
        rw [← e, hnew_no] at hb; cases hb
    | some a' =>
      cases h2 : io[j]? with
      | none =>
        rw [h1, h2] at e
        simp at e
        obtain ⟨blk, hb, _⟩ := hio_st i a' h1
        rw [e, hnew_no] at hb; cases hb
      | some b =>
        rw [h1, h2] at e
        simp at e
        subst e
        exact zfv hn h1 h2
  let fl : List (Id × Blk) := if fz then frzL s.store (tl1 ++ tl2) else []
  let σ3 : Id → Option Blk := wrs s.store (newL io d g rb 0 ++ fl)
  have hσ3 : ∀ id, (∃ j b, rb[j]? = some b ∧ id = nid io d g j ∧ σ3 id = some (renB io d g b)) ∨ ((∀ j, j < rb.length → id ≠ nid io d g j) ∧ σ3 id = wrs s.store fl id) := by
    intro id
    rcases zlr (io := io) (d := d) (g := g) (σ := s.store) (l := fl) rb 0 id with ⟨j, b, k1, k2, k3⟩ | ⟨k1, k2⟩
    · exact .inl ⟨j, b, k1, by simpa using k2, k3⟩
    · exact .inr ⟨fun j hj => by simpa using k1 j hj, k2⟩
  have hfl : ∀ id blk, wrs s.store fl id = some blk → ∃ blk0, s.store id = some blk0 ∧ blk.ver = blk0.ver ∧ blk.flat = blk0.flat ∧ blk.cells = blk0.cells ∧ (blk.own = true → blk0.own = true ∧ (fz = true → id ∉ tl1 ++ tl2)) := by
    intro id blk hb
    by_cases hf : fz = true
    · have e : fl = frzL s.store (tl1 ++ tl2) := by simp [fl, hf]
      rw [e, zcb] at hb
      split at hb
      · cases hs : s.store id with
        | none => rw [hs] at hb; cases hb
        | some b0 => rw [hs] at hb; injection hb with hb; subst hb; exact ⟨b0, rfl, rfl, rfl, rfl, fun h => by cases h⟩
      · rename_i hm
        exact ⟨blk, hb, rfl, rfl, rfl, fun h => ⟨h, fun _ => hm⟩⟩
    · have e : fl = [] := by simp [fl, hf]
      rw [e] at hb
      exact ⟨blk, hb, rfl, rfl, rfl, fun h => ⟨h, fun h => absurd h hf⟩⟩
  have hfl' : ∀ id blk0, s.store id = some blk0 → ∃ blk, wrs s.store fl id = some blk ∧ blk.ver = blk0.ver := by
    intro id blk0 hb
    by_cases hf : fz = true
    · have e : fl = frzL s.store (tl1 ++ tl2) := by simp [fl, hf]
      rw [e, zcb]
      split
      · rw [hb]; exact ⟨_, rfl, rfl⟩
      · exact ⟨blk0, hb, rfl⟩
    · have e : fl = [] := by simp [fl, hf]
      rw [e]; exact ⟨blk0, hb, rfl⟩
  -- where the blocks lie now
  let find : Id → Option Nat := fun id => (List.range rb.length).find? fun j => decide (id = nid io d g j)
  let β3 : Id → Option (Nat × Nat) := fun id => match find id with | some j => β1 ⟨0, 0, j⟩ | none => β id
  have hfind : ∀ j, j < rb.length → β3 (nid io d g j) = β1 ⟨0, 0, j⟩ := by
    intro j hj
    have : find (nid io d g j) = some j := by
      cases hfd : find (nid io d g j) with
      | none =>
        have := List.find?_eq_none.1 hfd j (by simpa using hj)
        simp at this
      | some i =>
        have h1 := List.find?_some hfd
        have h2 := List.mem_of_find?_eq_some hfd
        simp at h1 h2
        exact congrArg some (hnid_inj j i hj h2 h1).symm
    simp only [β3, this]
  have hfindn : ∀ id, (∀ j, j < rb.length → id ≠ nid io d g j) → β3 id = β id := by
    intro id h
    have : find id = none := by
      refine List.find?_eq_none.2 fun j hj => ?_
      simp at hj ⊢
      exact h j hj
    simp only [β3, this]
  have hkeepsD : ∀ g', (env c β s.store w).D g' → ¬ c'.IS g' := by
    rintro g' hD ⟨id, b, o, hb, hbe⟩
    obtain ⟨id0, blk, y, m1, m2, m3, m4, m5, m6⟩ := hst id b hb
    rw [m5] at hbe
    exact hD.2.2 id0 blk o m2 (zbi m3).1 hbe
  have hrbl : ∀ j, j < rb.length → stOf rb ⟨0, 0, j⟩ = some (rb.getD j ⟨0, false, true, []⟩) := by
    intro j hj; simp [stOf, List.getD, hj]
  have hloc : ∀ (j : Nat) (b : Blk) (g' o' : Nat), rb[j]? = some b → β1 ⟨0, 0, j⟩ = some (g', o') → w.heap.size ≤ g' ∨ ∃ id0 blk oo, io[j]? = some id0 ∧ s.store id0 = some blk ∧ blk.own = true ∧ β id0 = some (g', oo) := by
    intro j b g' o' hb hbe
    have hb' : stOf rb ⟨0, 0, j⟩ = some b := by simp [stOf, hb]
    obtain ⟨hl, _⟩ := (hL.st.1 (⟨0, 0, j⟩ : Id) b hb').at_ (g := g') (o := o') hbe
    rcases hl with hl | ⟨_, _, b0, oo, k1, k2⟩
    · exact .inl hl
    · obtain ⟨id0, blk, y, m1, m2, m3, m4, m5, m6⟩ := hst _ b0 k1
      rw [m5] at k2
      exact .inr ⟨id0, blk, oo, m1, m2, (zbi m3).1, k2⟩
  have hkeeps : Keeps c.w0.heap.size c.IS w w' := by
    refine ⟨hL.keeps.os, hL.keeps.tape, hL.keeps.output, hL.keeps.size, fun k hk hn' => ?_, hL.keeps.room⟩
    have hsz : c.w0.heap.size ≤ w.heap.size := hr.keeps.size
    refine hL.keeps.block k (show k < w.heap.size by omega) ?_
    rintro ⟨id, b, o, hb, hbe⟩
    obtain ⟨id0, blk, y, m1, m2, m3, m4, m5, m6⟩ := hst id b hb
    rw [m5] at hbe
    obtain ⟨hl, _⟩ := (hr.blocks id0 blk m2).at_ (g := k) (o := o) hbe
    rcases hl with hl | ⟨_, _, hl⟩
    · omega
    · exact hn' ⟨_, hl⟩
  have L : (env c β s.store w).Le (env c β3 σ3 w') := by
    refine ⟨?_, fun g' hD => hL.keeps.block g' hD.1 (hkeepsD g' hD), hL.keeps.room, ?_⟩
    · intro g' hD
      refine ⟨Nat.lt_of_lt_of_le hD.1 hL.keeps.size, hD.2.1, fun id blk o hb ho hbe => ?_⟩
      have hb : σ3 id = some blk := hb
      have hbe : β3 id = some (g', o) := hbe
      rcases hσ3 id with ⟨j, b, k1, k2, k3⟩ | ⟨k1, k2⟩
      · have hj : j < rb.length := (List.getElem?_eq_some_iff.1 k1).1
        rw [k2, hfind j hj] at hbe
        rcases hloc j b g' o k1 hbe with hh | ⟨id0, blk0, oo, q1, q2, q3, q4⟩
        · have hlt : g' < w.heap.size := hD.1
          omega
        · exact hD.2.2 id0 blk0 oo q2 q3 q4
      · rw [k2] at hb
        obtain ⟨blk0, q1, q2, q3, q4, q5⟩ := hfl id blk hb
        rw [hfindn id k1] at hbe
        exact hD.2.2 id blk0 o q1 (q5 ho).1 hbe
    · intro id blk hb
      have hb : s.store id = some blk := hb
      rcases hσ3 id with ⟨j, b, k1, k2, k3⟩ | ⟨k1, k2⟩
      · have hj : j < rb.length := (List.getElem?_eq_some_iff.1 k1).1
        cases hio : io[j]? with
        | none =>
          have e : id = ⟨d, g, j⟩ := by rw [k2]; simp [nid, hio]
          rw [e, hnew_no] at hb; cases hb
        | some id0 =>
          have e : id = id0 := by rw [k2]; simp [nid, hio]
          subst e
          obtain ⟨blk', b0, y, m1, m2, m3, m4⟩ := b2 j id hio
          rw [hb] at m1; injection m1 with m1; subst m1
          obtain ⟨q1, q2, q3, _⟩ := zbi m2
          have hs0 : stOf ib ⟨0, 0, j⟩ = some b0 := by simp [stOf, m3]
          obtain ⟨b', n1, n2, n3⟩ := hL.old _ b0 hs0
          have e2 : b' = b := by
            have : stOf rb ⟨0, 0, j⟩ = some b := by simp [stOf, k1]
            rw [this] at n1; injection n1 with n1; exact n1.symm
          subst e2
          refine ⟨renB io d g b', k3, ?_, fun hv => ?_⟩
          · have : (renB io d g b').ver = b'.ver := by unfold renB; split <;> rfl
            omega
          · have hv' : (renB io d g b').ver = b'.ver := by unfold renB; split <;> rfl
            show β3 id = β id
            rw [k2, hfind j hj, n3 (by omega), hβ0 j id hio, ← k2]
      · obtain ⟨blk', q1, q2⟩ := hfl' id blk hb
        refine ⟨blk', by show σ3 id = some blk'; rw [k2]; exact q1, by omega, fun _ => hfindn id k1⟩
  -- results in the caller's words
  have hres : fz = true → RenEnv (env c' β1 (stOf rb) w') (env c β3 σ3 w') io d g := by
    intro hf
    refine ⟨rfl, ?_, ?_⟩
    · rintro g' ⟨k1, k2, k3⟩
      have hB : c.w0.heap.size ≤ w.heap.size := hr.keeps.size
      refine ⟨k1, ?_, fun id blk o hb ho hbe => ?_⟩
      · rcases k2 with (k2 | ⟨id, hid, hne, blk, oo, hb, hbe⟩) | k2
        · exact k2.2.1
        · obtain ⟨hl, _⟩ := (hr.blocks id blk hb).at_ (g := g') (o := oo) hbe
          rcases hl with hl | ⟨e1, e2, _⟩
          · exact .inr hl
          · rcases hne with hne | hne
            · exact absurd e1 hne
            · exact absurd e2 hne
        · exact .inr (Nat.le_trans hB k2)
      · have hb : σ3 id = some blk := hb
        have hbe : β3 id = some (g', o) := hbe
        rcases hσ3 id with ⟨j, b, m1, m2, m3⟩ | ⟨m1, m2⟩
        · have hj : j < rb.length := (List.getElem?_eq_some_iff.1 m1).1
          rw [m2, hfind j hj] at hbe
          rw [m3] at hb; injection hb with hb; subst hb
          have hbo : b.own = true := by revert ho; unfold renB; split <;> exact fun h => h
          exact k3 ⟨0, 0, j⟩ b o (by show stOf rb ⟨0, 0, j⟩ = some b; simp [stOf, m1]) hbo hbe
        · rw [m2] at hb
          obtain ⟨blk0, q1, q2, q3, q4, q5⟩ := hfl id blk hb
          rw [hfindn id m1] at hbe
          obtain ⟨q6, q7⟩ := q5 ho
          rcases k2 with (k2 | ⟨id', hid', hne, blk', oo, hb', hbe'⟩) | k2
          · exact k2.2.2 id blk0 o q1 q6 hbe
          · have := hr.inj id id' blk0 blk' g' o oo q1 hb' q6 hbe hbe'
            subst this
            exact q7 hf hid'
          · have := (hr.blocks id blk0 q1).lt (g := g') (o := o) hbe
            exact absurd (show g' < w.heap.size from this) (Nat.not_lt.2 k2)
    · intro id b hb
      have hb : stOf rb id = some b := hb
      obtain ⟨e, hb'⟩ := zdu hb
      have hj : id.j < rb.length := (List.getElem?_eq_some_iff.1 hb').1
      rcases hσ3 (nid io d g id.j) with ⟨j, b', m1, m2, m3⟩ | ⟨m1, m2⟩
      · have hj' : j < rb.length := (List.getElem?_eq_some_iff.1 m1).1
        have := hnid_inj _ _ hj hj' m2
        subst this
        rw [hb'] at m1; injection m1 with m1; subst m1
        refine ⟨renB io d g b, m3, by unfold renB; split <;> rfl, ?_⟩
        show β3 (nid io d g id.j) = β1 id
        rw [hfind _ hj, ← e]
      · exact absurd rfl (m1 id.j hj)
  have hrv : VR (env c β3 σ3 w') (renP io d g r) v := by
    rcases hfz with hf | ⟨_, hsc⟩
    · exact renP_VR (hres hf) hcr hL.vr
    · exact scalarP_VR hsc hL.vr
  let gens' : Nat → Nat := if decide (io.length < rb.length) then upd s.gens d (s.gens d + 1) else s.gens
  have hgens : ∀ id blk, σ3 id = some blk → id.g < gens' id.d := by
    intro id blk hb
    have hold : ∀ id blk0, s.store id = some blk0 → id.g < gens' id.d := by
      intro id blk0 hb0
      have := hr.gens id blk0 hb0
      simp only [gens']
      split
      · by_cases e : id.d = d
        · rw [e] at this ⊢; simp; omega
        · rw [zbj _ _ _ _ e]; exact this
      · exact this
    rcases hσ3 id with ⟨j, b, k1, k2, k3⟩ | ⟨k1, k2⟩
    · have hj : j < rb.length := (List.getElem?_eq_some_iff.1 k1).1
      cases hio : io[j]? with
      | none =>
        have e : id = ⟨d, g, j⟩ := by rw [k2]; simp [nid, hio]
        have hlt : io.length < rb.length := by
          have := List.getElem?_eq_none_iff.1 hio; omega
        rw [e]
        simp only [gens', hlt, decide_true, if_true, zfl]
        omega
      | some id0 =>
        have e : id = id0 := by rw [k2]; simp [nid, hio]
        subst e
        obtain ⟨blk0, hb0, _⟩ := hio_st j id hio
        exact hold id blk0 hb0
    · rw [k2] at hb
      obtain ⟨blk0, q1, _⟩ := hfl id blk hb
      exact hold id blk0 q1
  have hturn := hr.turn (β' := β3) (w' := w') σ3 gens' hkeeps L (fun id blk hb => ?_) (fun id id' blk blk' g' o o' hb hb' ho hbe hbe' => ?_) hgens
  · refine hK _ _ ⟨β3, (hturn.put o.dst (renP io d g r) v hnt fun _ _ => hrv).congr_store ?_ ?_ ?_⟩
    · simp only [St.eff, callE]
      cases o.dst <;> rfl
    · simp only [St.eff, callE]
      cases o.dst <;> rfl
    · simp only [St.eff, callE, gens', hd0]
      cases o.dst <;> rfl
  · -- the blocks
    rcases hσ3 id with ⟨j, b, k1, k2, k3⟩ | ⟨k1, k2⟩
    · have hj : j < rb.length := (List.getElem?_eq_some_iff.1 k1).1
      rw [k3] at hb; injection hb with hb; subst hb
      have hne : rb ≠ [] := by intro e; rw [e] at hj; simp at hj
      have hf : fz = true := by
        rcases hfz with hf | ⟨hf, _⟩
        · exact hf
        · exact absurd hf hne
      have hX := hres hf
      have hsb : stOf rb ⟨0, 0, j⟩ = some b := by simp [stOf, k1]
      have hrel := hL.st.1 (⟨0, 0, j⟩ : Id) b hsb
      cases hbe : β1 ⟨0, 0, j⟩ with
      | none =>
        unfold BlkRel at hrel ⊢
        have e1 : (env c' β1 (stOf rb) w').β ⟨0, 0, j⟩ = none := hbe
        have e2 : (env c β3 σ3 w').β id = none := by show β3 id = none; rw [k2, hfind j hj, hbe]
        rw [e1] at hrel
        rw [e2]
        simp only at hrel ⊢
        unfold renB
        split
        · exact hrel
        · simp [hrel]
      | some go =>
        obtain ⟨g', o⟩ := go
        obtain ⟨hl, cc, e, fzz, hat⟩ := hrel.at_ (g := g') (o := o) hbe
        have hβ3 : (env c β3 σ3 w').β id = some (g', o) := by show β3 id = some (g', o); rw [k2, hfind j hj, hbe]
        refine BlkAt.rel (g := g') (o := o) (c := cc) (e := e) (fz := fzz) ⟨hat.heap, fun h => hat.own (by revert h; unfold renB; split <;> exact fun h => h), ?_, fun i hi => ?_, fun i hi => ?_⟩ hβ3 ?_
        · unfold renB; split
          · exact hat.size
          · simpa using hat.size
        · unfold renB at hi ⊢
          split at hi
          · rename_i hfl
            rw [if_pos hfl]
            have hc := hat.cell i hi
            rw [if_pos hfl] at hc ⊢
            exact hc.mono hX.bare
          · rename_i hfl
            rw [if_neg hfl]
            simp at hi
            have hc := hat.cell i hi
            have hfl' : b.flat = false := by simpa using hfl
            simp only [hfl', Bool.false_eq_true, if_false] at hc ⊢
            rw [zfy _ _ hi]
            refine zmn hX ?_ hc
            rcases hcb b (List.mem_of_getElem? k1) with h | h
            · exact absurd h hfl
            · exact zgc h hi
        · unfold renB at hi
          split at hi
          · exact hat.one i hi
          · exact hat.one i (by simpa using hi)
        · have hB : c.w0.heap.size ≤ w.heap.size := hr.keeps.size
          rcases hloc j b g' o k1 hbe with hh | ⟨id0, blk0, oo, q1, q2, q3, q4⟩
          · exact .inl (Nat.le_trans hB hh)
          · obtain ⟨hl0, _⟩ := (hr.blocks id0 blk0 q2).at_ (g := g') (o := oo) q4
            have e0 : id = id0 := by rw [k2]; simp [nid, q1]
            rw [e0]; exact hl0
    · rw [k2] at hb
      obtain ⟨blk0, q1, q2, q3, q4, q5⟩ := hfl id blk hb
      have hrel := hr.blocks id blk0 q1
      have hβ3 : β3 id = β id := hfindn id k1
      cases hbe : β id with
      | none =>
        unfold BlkRel at hrel ⊢
        have e1 : (env c β s.store w).β id = none := hbe
        have e2 : (env c β3 σ3 w').β id = none := by show β3 id = none; rw [hβ3, hbe]
        rw [e1] at hrel
        rw [e2]
        simp only at hrel ⊢
        rw [q4]; exact hrel
      | some go =>
        obtain ⟨g', o⟩ := go
        have hlt := hrel.lt (g := g') (o := o) hbe
        obtain ⟨hl, cc, e, fzz, hat⟩ := hrel.at_ (g := g') (o := o) hbe
        have hheap : w'.heap[g']? = some (.cells cc e fzz) := by
          refine (hL.keeps.block g' hlt ?_).trans hat.heap
          rintro ⟨id1, b1, o1, hb1, hbe1⟩
          obtain ⟨id0, blk1, y, m1, m2, m3, m4, m5, m6⟩ := hst id1 b1 hb1
          rw [m5] at hbe1
          have := hr.inj id0 id blk1 blk0 g' o1 o m2 q1 (zbi m3).1 hbe1 hbe
          subst this
          have hjlt : id1.j < rb.length := Nat.lt_of_lt_of_le (List.getElem?_eq_some_iff.1 m1).1 hlen
          exact k1 id1.j hjlt (by simp [nid, m1])
        refine BlkAt.rel (g := g') (o := o) (c := cc) (e := e) (fz := fzz) ⟨hheap, fun h => hat.own (q5 h).1, by rw [q4]; exact hat.size, fun i hi => ?_, fun i hi => hat.one i (by rw [← q4]; exact hi)⟩ (by show β3 id = some (g', o); rw [hβ3, hbe]) hl
        rw [q4] at hi ⊢
        rw [q3]
        have hc := hat.cell i hi
        split
        · rename_i hfl; rw [if_pos hfl] at hc; exact hc.mono L.bare
        · rename_i hfl; rw [if_neg hfl] at hc; exact hc.mono L
  · -- apart
    have hbe : β3 id = some (g', o) := hbe
    have hbe' : β3 id' = some (g', o') := hbe'
    rcases hσ3 id with ⟨j, b, k1, k2, k3⟩ | ⟨k1, k2⟩ <;> rcases hσ3 id' with ⟨j', b', k1', k2', k3'⟩ | ⟨k1', k2'⟩
    · have hj : j < rb.length := (List.getElem?_eq_some_iff.1 k1).1
      have hj' : j' < rb.length := (List.getElem?_eq_some_iff.1 k1').1
      rw [k2, hfind j hj] at hbe
      rw [k2', hfind j' hj'] at hbe'
      rw [k3] at hb; injection hb with hb; subst hb
      have hbo : b.own = true := by revert ho; unfold renB; split <;> exact fun h => h
      have := hL.st.2 ⟨0, 0, j⟩ ⟨0, 0, j'⟩ b b' g' o o' (by simp [env, stOf, k1]) (by simp [env, stOf, k1']) hbo hbe hbe'
      have hjj : j = j' := by injection this
      rw [k2, k2', hjj]
    · have hj : j < rb.length := (List.getElem?_eq_some_iff.1 k1).1
      rw [k2, hfind j hj] at hbe
      rw [hfindn id' k1'] at hbe'
      rw [k2'] at hb'
      obtain ⟨blk0, q1, _⟩ := hfl id' blk' hb'
      rcases hloc j b g' o k1 hbe with hh | ⟨id0, blk1, oo, r1, r2, r3, r4⟩
      · have := (hr.blocks id' blk0 q1).lt (g := g') (o := o') hbe'
        exact absurd (show g' < w.heap.size from this) (Nat.not_lt.2 hh)
      · have := hr.inj id0 id' blk1 blk0 g' oo o' r2 q1 r3 r4 hbe'
        subst this
        exact absurd (by simp [nid, r1]) (k1' j hj)
    · have hj' : j' < rb.length := (List.getElem?_eq_some_iff.1 k1').1
      rw [hfindn id k1] at hbe
      rw [k2', hfind j' hj'] at hbe'
      rw [k2] at hb
      obtain ⟨blk0, q1, q2, q3, q4, q5⟩ := hfl id blk hb
      rcases hloc j' b' g' o' k1' hbe' with hh | ⟨id0, blk1, oo, r1, r2, r3, r4⟩
      · have := (hr.blocks id blk0 q1).lt (g := g') (o := o) hbe
        exact absurd (show g' < w.heap.size from this) (Nat.not_lt.2 hh)
      · have := hr.inj id id0 blk0 blk1 g' o oo q1 r2 (q5 ho).1 hbe r4
        subst this
        exact absurd (by simp [nid, r1]) (k1 j' hj')
    · rw [hfindn id k1] at hbe
      rw [hfindn id' k1'] at hbe'
      rw [k2] at hb
      rw [k2'] at hb'
      obtain ⟨blk0, q1, q2, q3, q4, q5⟩ := hfl id blk hb
      obtain ⟨blk0', q1', _⟩ := hfl id' blk' hb'
      exact hr.inj id id' blk0 blk0' g' o o' q1 q1' (q5 ho).1 hbe hbe'
theorem opEff_call {P : Program} {o : Oper} {s : St} {f : FuncId} {x : Operand} {args : Array Operand} {at_ : Array TypeId} (ho : o.op = .call { callee := .value x, args := args, argTypes := at_ }) (hx : pv s.frame x = .fn f [] []) (hf : FnOk P f)
    {io tl1 tl2 : List Id} {ps : List PV} {ib rb : List Blk} {r : PV} (h1 : expL (expA s.store io) (args.toList.map (pv s.frame)) = some (ps, tl1)) (h2 : expBs s.store io io = some (ib, tl2)) (hn : io.Nodup) (hni : ∀ id ∈ tl1 ++ tl2, id ∉ io)
    (hc : CallOk P f ps ib r rb) (hcr : cellP r = true) (hcb : ∀ b ∈ rb, b.flat = true ∨ b.cells.all cellB = true) (hlen : io.length ≤ rb.length) (hd : rb.length = io.length ∨ o.dst ≠ none) {fz : Bool} (hfz : fz = true ∨ (rb = [] ∧ scalarP r = true)) (hdst : ∃ d, o.dst = some d) :
    OpEff P o s (callE io (tl1 ++ tl2) (o.dst.getD 0) (s.gens (o.dst.getD 0)) r rb fz s.store) := by
  refine ⟨fun s' k1 k2 k3 => ?_⟩
  have hg : s'.gens (o.dst.getD 0) = s.gens (o.dst.getD 0) := by
    obtain ⟨d, hd'⟩ := hdst
    rw [hd']; exact k3 d hd'
  have hio : ∀ id ∈ io, s'.store id = s.store id := fun id hid => k2 id (by simp [callE, hid])
  have ht1 : ∀ id ∈ tl1, s'.store id = s.store id := fun id hid => k2 id (by simp [callE, hid])
  have ht2 : ∀ id ∈ tl2, s'.store id = s.store id := fun id hid => k2 id (by simp [callE, hid])
  have e1 : args.toList.map (pv s'.frame) = args.toList.map (pv s.frame) := List.map_congr_left fun y hy => k1 y (by simp [ho, Op.operands, Call.operands]; exact .inr (by simpa using hy))
  have e2 : callE io (tl1 ++ tl2) (o.dst.getD 0) (s.gens (o.dst.getD 0)) r rb fz s.store = callE io (tl1 ++ tl2) (o.dst.getD 0) (s'.gens (o.dst.getD 0)) r rb fz s'.store := by
    unfold callE
    rw [hg, zez (σ := s.store) (σ' := s'.store) (tl1 ++ tl2) (fun id hid => by
      rcases List.mem_append.1 hid with h | h
      · exact ht1 id h
      · exact ht2 id h)]
  rw [e2]
  refine call_sim ho ?_ hf (ps := ps) (ib := ib) ?_ ?_ hn hni hc hcr hcb hlen hd hfz
  · rw [k1 x (by simp [ho, Op.operands, Call.operands])]; exact hx
  · rw [e1]
    exact zfa (ok := fun id => s'.store id = s.store id) (fun p q x h1 h2 => expA_congr h1 hio h2) h1 ht1
  · exact zih hio h2 hio ht2
end Go.Proofs.YthgldcflcmlgpaaGreatDoorE
end
section
/- Copies. -/
set_option linter.unusedVariables false
set_option linter.unusedSimpArgs false
namespace Go.Proofs.YthgldcflcmlgpaaGreatDoorE
open Go.RowKit
def copyE (P : Program) (t tx : TypeId) (x y : PV) (σ : Id → Option Blk) : Option Eff :=
  match P.underlying t, x with
  | some (.slice e), .sl id ver off n sz' =>
    match szOf P e, live σ id ver with
    | some sz, some blk =>
      match srcV P tx sz y σ with
      | some (l, m, rs) =>
        if blk.own = true ∧ blk.flat = true ∧ sz' = sz ∧ sz ≠ 0 ∧ off + n * sz ≤ blk.cells.length then
          some ⟨.int .i64 (min m n : Nat), id :: rs, [(id, { blk with cells := blk.cells.take off ++ l.take (min m n * sz) ++ blk.cells.drop (off + min m n * sz) })], false⟩
        else none
      | none => none
    | _, _ => none
  | _, _ => none
theorem zel {P : Program} {o : Oper} {a : Act} {w w' : World} {x y : Operand} {t tx : TypeId} {v : Value} (ho : o.op = .call { callee := .builtin .copy, args := #[x, y], argTypes := #[t, tx] })
    (h : (Builtin.copy_ #[t, tx] o.type #[a.eval x, a.eval y]).run P w = .ok v w') : (execOp a.eval o).run P w = .ok (.value v) w' := by
  refine zdd ho ?_
  simp only [builtin, Sem.run_bind, List.map_toArray, List.map_cons, List.map_nil, h, Result.andThen_ok, Sem.run_pure]
theorem opEff_copy {P : Program} {o : Oper} {s : St} {x y : Operand} {t tx : TypeId} {e : Eff} (ho : o.op = .call { callee := .builtin .copy, args := #[x, y], argTypes := #[t, tx] })
    (h : copyE P t tx (pv s.frame x) (pv s.frame y) s.store = some e) : OpEff P o s e := by
  refine ⟨fun s' h1 h2 h3 => ?_⟩
  rw [← h1 x (by simp [ho, Op.operands, Call.operands]), ← h1 y (by simp [ho, Op.operands, Call.operands])] at h
  unfold copyE at h
  split at h
  · rename_i et id ver off n sz' hu hpx
    split at h
    · rename_i sz blk hsz hl
      split at h
      · rename_i l m rs hsrc
        split at h
        · rename_i hc
          obtain ⟨c1, c2, rfl, hsz0, c4⟩ := hc
          injection h with h
          have hsrc' := zgj hsrc (fun id hid => h2 id (by rw [← h]; simp [hid]))
          have hl' : live s'.store id ver = some blk := by rw [zbf (h2 id (by rw [← h]; simp))]; exact hl
          subst h
          clear h1 h2 h3
          intro cx a w K Q hr hn hK
          obtain ⟨β, hr⟩ := hr
          obtain ⟨hb, hver⟩ := zbh hl'
          have vx := zbs hr.frame x
          rw [hpx] at vx
          obtain ⟨news, hS⟩ := zkc hr hsrc' hsz0 (zbs hr.frame y)
          have hsl := vx.sl_inv hb hver
          have hmin : Nat.min m n = min m n := rfl
          have hle : min m n * sz' ≤ n * sz' := Nat.mul_le_mul_right _ (Nat.min_le_right _ _)
          have hle2 : min m n * sz' ≤ m * sz' := Nat.mul_le_mul_right _ (Nat.min_le_left _ _)
          have hcz := hS.cells (min m n) (Nat.min_le_left _ _) w rfl
          unfold Oper.wp
          unfold SlAt at hsl
          split at hsl
          · rename_i hβ
            have hβ : β id = none := hβ
            obtain ⟨hv, hn0⟩ := hsl
            subst hn0
            have hrel := hr.blocks id blk hb
            unfold BlkRel at hrel
            rw [show (env cx β s'.store w).β id = none from hβ] at hrel
            have hrel : blk.cells = [] := hrel
            have hrun : (execOp a.eval o).run P w = .ok (.value (goInt 0)) w := by
              refine zel ho ?_
              rw [hv]
              simp only [Nat.min_zero, Nat.zero_mul, List.take_zero] at hcz
              simp [Builtin.copy_, run_underlying hu, hS.len, zav hsz, hmin, hcz]
            rw [hrun]
            simp only [Oper.upon]
            refine hK _ _ ⟨β, (hr.put o.dst (.int .i64 ((min m 0 : Nat) : Int)) _ hn fun _ _ => ?_).congr_store ?_ ?_ ?_⟩
            · simp [goInt]; exact .int _ _
            · cases ho : o.dst <;> simp [St.eff, St.put, ho]
            · have : ({ blk with cells := blk.cells.take off ++ l.take (min m 0 * sz') ++ blk.cells.drop (off + min m 0 * sz') } : Blk) = blk := by
                cases blk; simp at hrel; subst hrel; simp
              funext i
              simp only [St.eff, wrs, List.foldr]
              rw [this]
              by_cases e : i = id
              · subst e; cases ho : o.dst <;> simp [St.put, ho, hb]
              · rw [zan _ _ _ _ e]; cases ho : o.dst <;> simp [St.put, ho]
            · cases ho : o.dst <;> simp [St.eff, St.put, ho]
          · rename_i g o0 hβ
            have hβ : β id = some (g, o0) := hβ
            obtain ⟨cap, hv, k1, k2, k3⟩ := hsl
            obtain ⟨_, cur, cet, fz, hat⟩ := (hr.blocks id blk hb).at_ hβ
            have hfz := hat.own c1
            subst hfz
            have hheap : w.heap[g]? = some (.cells cur cet (0, 0)) := hat.heap
            have hsize := hat.size
            have hnl := hS.nlen
            have hll := hS.llen
            have htl : (news.take (min m n * sz')).length = min m n * sz' := by simp; omega
            have hltl : (l.take (min m n * sz')).length = min m n * sz' := by simp; omega
            have hst := run_storeCells_at P g (o0 + off) cet (news.take (min m n * sz')) 0 cur w hheap (by rw [htl]; omega) (fun u hu => hS.mem_one u (List.mem_of_mem_take hu))
            simp only [Nat.add_zero] at hst
            have hrun : (execOp a.eval o).run P w = .ok (.value (goInt (min m n : Nat))) (w.setRow g (cur.toList.take (o0 + off) ++ news.take (min m n * sz') ++ cur.toList.drop (o0 + off + (news.take (min m n * sz')).length)).toArray) := by
              refine zel ho ?_
              rw [hv]
              simp [Builtin.copy_, run_underlying hu, hS.len, zav hsz, hmin, hcz, hst]
            rw [hrun]
            simp only [Oper.upon]
            have hcur : ∀ j, ((cur.toList.take (o0 + off) ++ news.take (min m n * sz') ++ cur.toList.drop (o0 + off + (news.take (min m n * sz')).length)).toArray).getD j undef = if o0 + off ≤ j ∧ j < o0 + off + min m n * sz' then (news.take (min m n * sz')).getD (j - (o0 + off)) undef else cur.getD j undef := by
              intro j
              rw [zdh, zcc _ _ _ _ _ (by rw [htl]; simp; omega), htl, zcy cur]
            have hcs : ((cur.toList.take (o0 + off) ++ news.take (min m n * sz') ++ cur.toList.drop (o0 + off + (news.take (min m n * sz')).length)).toArray).size = cur.size := by
              simp only [List.size_toArray]; rw [zeg _ _ _ (by rw [htl]; simp; omega)]; simp
            have hqs : (blk.cells.take off ++ l.take (min m n * sz') ++ blk.cells.drop (off + min m n * sz')).length = blk.cells.length := by simp; omega
            have hget : ∀ j, (blk.cells.take off ++ l.take (min m n * sz') ++ blk.cells.drop (off + min m n * sz')).getD j .any = if off ≤ j ∧ j < off + min m n * sz' then (l.take (min m n * sz')).getD (j - off) .any else blk.cells.getD j .any := by
              intro j
              have := zcc blk.cells (l.take (min m n * sz')) off j .any (by omega)
              rw [hltl] at this
              exact this
            have hre := hr.rewrite (x := id) (blk := blk) (g := g) (o := o0) hb c1 hβ hheap _ hcs { blk with cells := blk.cells.take off ++ l.take (min m n * sz') ++ blk.cells.drop (off + min m n * sz') } o0 ⟨Nat.le_refl _, fun _ => rfl⟩ (by rw [hqs]; exact hsize)
              (fun j hj => ?_) (fun j hj => ?_)
            · refine hK _ _ ⟨_, (hre.put o.dst (.int .i64 ((min m n : Nat) : Int)) _ hn fun _ _ => .int _ _).congr_store ?_ ?_ ?_⟩
              · cases ho : o.dst <;> simp [St.eff, St.put, ho]
              · cases ho : o.dst <;> rfl
              · cases ho : o.dst <;> rfl
            · rw [hqs] at hj
              simp only [c2, if_true]
              rw [hget, hcur]
              by_cases hj2 : off ≤ j ∧ j < off + min m n * sz'
              · rw [if_pos hj2, if_pos (by omega), show o0 + j - (o0 + off) = j - off by omega, zcn _ _ _ (by omega)]
                have := hS.vr (j - off) (by omega)
                have e : (news.take (min m n * sz')).getD (j - off) undef = news.getD (j - off) undef := by simp [List.getD, List.getElem?_take, show j - off < min m n * sz' by omega]
                rw [e]; exact this
              · rw [if_neg hj2, if_neg (by omega)]
                have := hat.cell j hj
                rw [if_pos c2] at this
                exact this
            · rw [hqs] at hj
              rw [hcur]
              by_cases hj2 : off ≤ j ∧ j < off + min m n * sz'
              · rw [if_pos (by omega), show o0 + j - (o0 + off) = j - off by omega]
                have e : (news.take (min m n * sz')).getD (j - off) undef = news.getD (j - off) undef := by simp [List.getD, List.getElem?_take, show j - off < min m n * sz' by omega]
                rw [e]; exact hS.one _ (by omega)
              · rw [if_neg (by omega)]; exact hat.one j hj
        · cases h
      · cases h
    · cases h
  · cases h
end Go.Proofs.YthgldcflcmlgpaaGreatDoorE
end
section
/- A region's operations as a condition that can be worked out step by step. -/
set_option linter.unusedVariables false
set_option linter.unusedSimpArgs false
namespace Go.Proofs.YthgldcflcmlgpaaGreatDoorE
open Go.RowKit
def effC (P : Program) (c : Call) (dst : Option Nat) (s : St) : Option Eff :=
  match c.callee with
  | .builtin .append => match dst, c.args.toList, c.argTypes.toList with
    | some d, [x, y], [t, tx] => appendE P t tx (pv s.frame x) (pv s.frame y) s.store d (s.gens d)
    | _, _, _ => none
  | .builtin .copy => match c.args.toList, c.argTypes.toList with
    | [x, y], [t, tx] => copyE P t tx (pv s.frame x) (pv s.frame y) s.store
    | _, _ => none
  | .value _ => none
  | _ => (evalV P (.call c) (pv s.frame) s.store).map fun (p, rs) => ⟨p, rs, [], false⟩
def effF (P : Program) (op : Op) (dst : Option Nat) (s : St) : Option Eff :=
  match op with
  | .load t x => (evalL P (.load t x) (pv s.frame) s.store).map fun (p, rs) => ⟨p, rs, [], false⟩
  | .alloc t => match dst with | some d => allocE P t d (s.gens d) | none => none
  | .box t x => match dst with | some d => boxE (pv s.frame x) d (s.gens d) | none => none
  | .store t x y => match dst with | none => storeE P t (pv s.frame x) (pv s.frame y) s.store | some _ => none
  | .makeSlice t x y => match dst with | some d => makeE P t (pv s.frame x) (pv s.frame y) d (s.gens d) | none => none
  | .buildSlice t len ps => match dst with | some d => litE P t len (allParts (pv s.frame) ps.toList) s.store d (s.gens d) | none => none
  | .call c => effC P c dst s
  | op => (evalV P op (pv s.frame) s.store).map fun (p, rs) => ⟨p, rs, [], false⟩
theorem zqd {P : Program} {o : Oper} {s : St} {e : Eff} (h : (evalV P o.op (pv s.frame) s.store).map (fun (x : PV × List Id) => (⟨x.1, x.2, [], false⟩ : Eff)) = some e) : OpEff P o s e := by
  cases hv : evalV P o.op (pv s.frame) s.store with
  | none => rw [hv] at h; cases h
  | some q =>
    rw [hv] at h; injection h with h; subst h
    exact opEff_value hv
theorem effF_ok {P : Program} {o : Oper} {s : St} {e : Eff} (h : effF P o.op o.dst s = some e) : OpEff P o s e := by
  cases ho : o.op with
  | load t x =>
    rw [ho] at h
    simp only [effF] at h
    cases hv : evalL P (.load t x) (pv s.frame) s.store with
    | none => rw [hv] at h; cases h
    | some q =>
      rw [hv] at h; injection h with h; subst h
      exact opEff_load (by rw [ho]; exact hv)
  | alloc t =>
    rw [ho] at h
    cases hd : o.dst with
    | none => rw [hd] at h; cases h
    | some d => rw [hd] at h; exact opEff_alloc ho hd h
  | box t x =>
    rw [ho] at h
    cases hd : o.dst with
    | none => rw [hd] at h; cases h
    | some d => rw [hd] at h; exact opEff_box ho hd h
  | store t x y =>
    rw [ho] at h
    cases hd : o.dst with
    | some d => rw [hd] at h; cases h
    | none => rw [hd] at h; exact opEff_store ho hd h
  | makeSlice t x y =>
    rw [ho] at h
    cases hd : o.dst with
    | none => rw [hd] at h; cases h
    | some d => rw [hd] at h; exact opEff_make ho hd h
  | buildSlice t len ps =>
    rw [ho] at h
    cases hd : o.dst with
    | none => rw [hd] at h; cases h
    | some d => rw [hd] at h; exact opEff_lit ho hd h
  | call c =>
    have h0 := h
    rw [ho] at h
    obtain ⟨callee, args, ats⟩ := c
    simp only [effF, effC] at h
    split at h
    · split at h
      · rename_i d x y t tx hd ha hat
        obtain ⟨args⟩ := args
        obtain ⟨ats⟩ := ats
        simp only at ha hat
        subst ha; subst hat
        exact opEff_append ho hd h
      · cases h
    · split at h
      · rename_i x y t tx ha hat
        obtain ⟨args⟩ := args
        obtain ⟨ats⟩ := ats
        simp only at ha hat
        subst ha; subst hat
        exact opEff_copy ho h
      · cases h
    · cases h
    · rw [← ho] at h
      exact zqd h
  | _ => exact zqd (by simpa only [effF, ho] using h)
def contK (P : Program) (o : Oper) (s : St) (r : Option Eff) (K : Eff → Prop) : Prop :=
  match r with
  | some e => K e
  | none => ∃ e, OpEff P o s e ∧ K e
@[simp] theorem contK_some {P : Program} {o : Oper} {s : St} {e : Eff} {K : Eff → Prop} : contK P o s (some e) K = K e := rfl
theorem contK_ok {P : Program} {o : Oper} {s : St} {K : Eff → Prop} (h : contK P o s (effF P o.op o.dst s) K) : ∃ e, OpEff P o s e ∧ K e := by
  unfold contK at h
  split at h
  · rename_i e he; exact ⟨e, effF_ok he, h⟩
  · exact h
def prep1 (l : List Oper) (o : Oper) : Option (Option (Nat × Bool)) :=
  match o.guard with
  | none => some none
  | some (j, want) => match l[j]? with
    | some o' => match o'.dst with
      | some d => some (some (d, want))
      | none => none
    | none => none
def prep (l : List Oper) : List (Option (Option (Nat × Bool)) × Oper) := l.map fun o => (prep1 l o, o)
def wantK (g : Option (Option (Nat × Bool))) (f : Nat → PV) : Option Bool :=
  match g with
  | none => none
  | some none => some true
  | some (some (d, want)) => match f d with
    | .bool b => some (b == want)
    | .tup [] => some false
    | _ => none
theorem znd {l : List Oper} {o : Oper} {f : Nat → PV} {b : Bool} (h : wantK (prep1 l o) f = some b) : wantedA l.toArray o f = some b := by
  unfold wantK prep1 at h
  unfold wantedA
  cases hg : o.guard with
  | none => rw [hg] at h; exact h
  | some g =>
    obtain ⟨j, want⟩ := g
    rw [hg] at h
    simp only [List.getElem?_toArray]
    simp only at h
    cases hl : l[j]? with
    | none => rw [hl] at h; cases h
    | some o' =>
      rw [hl] at h
      simp only at h
      simp only [Option.bind_some]
      cases hd : o'.dst with
      | none => rw [hd] at h; cases h
      | some d =>
        rw [hd] at h
        exact h
def caseK (w : Option Bool) (x y : Prop) : Prop :=
  match w with
  | some true => x
  | some false => y
  | none => False
@[simp] theorem caseK_t {x y : Prop} : caseK (some true) x y = x := rfl
@[simp] theorem caseK_f {x y : Prop} : caseK (some false) x y = y := rfl
def runK (P : Program) (K : List Eff → St → Prop) : List (Option (Option (Nat × Bool)) × Oper) → List Eff → St → Prop
  | [], es, s => K es s
  | (g, o) :: l, es, s => caseK (wantK g s.frame) (contK P o s (effF P o.op o.dst s) fun e => runK P K l (e :: es) (s.eff o.dst e)) (runK P K l (noEff :: es) (s.put o.dst (.tup [])))
theorem zae {P : Program} {K : List Eff → St → Prop} {g : Option (Option (Nat × Bool))} {o : Oper} {l : List (Option (Option (Nat × Bool)) × Oper)} {es : List Eff} {s : St} (hw : wantK g s.frame = some true)
    (h : contK P o s (effF P o.op o.dst s) fun e => runK P K l (e :: es) (s.eff o.dst e)) : runK P K ((g, o) :: l) es s := by
  simp only [runK, hw, caseK_t]; exact h
theorem runK_skip {P : Program} {K : List Eff → St → Prop} {g : Option (Option (Nat × Bool))} {o : Oper} {l : List (Option (Option (Nat × Bool)) × Oper)} {es : List Eff} {s : St} (hw : wantK g s.frame = some false)
    (h : runK P K l (noEff :: es) (s.put o.dst (.tup []))) : runK P K ((g, o) :: l) es s := by
  simp only [runK, hw, caseK_f]; exact h
theorem zad {P : Program} {K : List Eff → St → Prop} {es : List Eff} {s : St} (h : K es s) : runK P K [] es s := h
theorem zac {P : Program} {o : Oper} {s : St} {e : Eff} {K : Eff → Prop} (h : K e) : contK P o s (some e) K := h
theorem zaa {P : Program} {K : List Eff → St → Prop} {o : Oper} {l : List (Option (Option (Nat × Bool)) × Oper)} {es : List Eff} {f : Nat → PV} {σ : Id → Option Blk} {g : Nat → Nat} {d : Nat} {v : PV} {rs : List Id}
    (h : runK P K l (⟨v, rs, [], false⟩ :: es) ⟨upd f d v, σ, g⟩) : contK P o ⟨f, σ, g⟩ (some ⟨v, rs, [], false⟩) (fun e => runK P K l (e :: es) (St.eff ⟨f, σ, g⟩ (some d) e)) := h
theorem zab {P : Program} {K : List Eff → St → Prop} {w : Option (Option (Nat × Bool))} {o : Oper} {l : List (Option (Option (Nat × Bool)) × Oper)} {es : List Eff} {f : Nat → PV} {σ : Id → Option Blk} {g : Nat → Nat} {d : Nat} (hd : o.dst = some d) (hw : wantK w f = some false)
    (h : runK P K l (noEff :: es) ⟨upd f d (.tup []), σ, g⟩) : runK P K ((w, o) :: l) es ⟨f, σ, g⟩ := by
  refine runK_skip hw ?_
  rw [hd]; exact h
theorem zpb {α : Type} (f : Nat → α) (d t : Nat) (x : α) : upd f d x t = if t = d then x else f t := rfl
theorem zmj {α : Type} (f : Id → α) (d t : Id) (x : α) : updI f d x t = if t = d then x else f t := rfl
theorem zhu {P : Program} {K : List Eff → St → Prop} {l0 : List Oper} : ∀ {l : List Oper} {es : List Eff} {s : St}, runK P K (l.map fun o => (prep1 l0 o, o)) es s → ∃ es' s', Runs P l0.toArray l s es' s' ∧ K (es'.reverse ++ es) s'
  | [], es, s, h => ⟨[], s, .nil s, h⟩
  | o :: l, es, s, h => by
    simp only [List.map_cons, runK, caseK] at h
    split at h
    · rename_i hw
      obtain ⟨e, h1, h2⟩ := contK_ok h
      obtain ⟨es', s', k1, k2⟩ := zhu h2
      exact ⟨e :: es', s', .cons _ _ _ _ _ _ (.inl ⟨znd hw, h1⟩) k1, by simpa using k2⟩
    · rename_i hw
      obtain ⟨es', s', k1, k2⟩ := zhu h
      exact ⟨noEff :: es', s', .cons _ _ _ _ _ _ (.inr ⟨znd hw, rfl⟩) (by rw [zrg]; exact k1), by simpa using k2⟩
    · cases h
section
variable {P : Program} {nt : Nat} {Q : Exit → St → Prop} {s : St}
theorem WP.reg {id : Nat} {l : List Oper} (hd : dstB nt l = true) (h : runK P (fun _ s' => Q .normal s') (prep l) [] s) : WP P nt (.region id l.toArray false) Q s := by
  obtain ⟨es, s', h1, h2⟩ := zhu h
  exact WP.region hd h1 h2
def quietB (W : List Nat) : List Eff → Nat → Prop
  | [], _ => True
  | e :: r, n => (if r.length ∈ W then True else e.wr = []) ∧ quietB W r n
def apartW (W : List Nat) (l : List (Nat × Nat)) : Bool := l.all fun (i, j) => !W.contains i && !W.contains j
theorem zhx {W : List Nat} : ∀ {es : List Eff} {n : Nat}, quietB W es n → ∀ i, i ∉ W → (es.reverse.getD i noEff).wr = []
  | [], _, _, i, _ => by simp [List.getD, noEff]
  | e :: r, n, h, i, hi => by
    obtain ⟨h1, h2⟩ := h
    have ih := zhx h2 i hi
    simp only [List.reverse_cons, List.getD_eq_getElem?_getD, List.getElem?_append, List.length_reverse] at ih ⊢
    split
    · exact ih
    · rename_i hge
      by_cases e0 : i = r.length
      · subst e0
        rw [if_neg hi] at h1
        simpa using h1
      · have : ([e] : List Eff)[i - r.length]? = none := by simp; omega
        rw [this]; simp [noEff]
theorem zem {ops : Array Oper} {W : List Nat} {es : List Eff} (hq : quietB W es 0) : ∀ {l : List (Nat × Nat)}, apartW W l = true → touchFree ops es.reverse l
  | [], _ => trivial
  | (i, j) :: r, h => by
    simp only [apartW, List.all_cons, Bool.and_eq_true, Bool.not_eq_true', List.contains_eq_mem, decide_eq_false_iff_not] at h
    obtain ⟨⟨h1, h2⟩, h3⟩ := h
    refine ⟨?_, zem hq (by simpa [apartW] using h3)⟩
    have a1 := zhx hq i h1
    have a2 := zhx hq j h2
    simp only [wids, a1, a2, List.map_nil]
    simp
def bumpK : List Oper → List Eff → Prop
  | [], _ => True
  | o :: l, es => (match es with | [] => True | e :: _ => (e.bump = true → o.dst ≠ none)) ∧ bumpK l es.tail
def quietU (U : List Nat) : List Eff → Prop
  | [] => True
  | e :: r => (if r.length ∈ U then e.bump = false else True) ∧ quietU U r
def namedB (U : List Nat) (l : List Oper) : Bool := (List.range l.length).all fun i => match l[i]? with | some o => (match o.dst with | none => U.contains i | some _ => true) | none => true
theorem zlq {U : List Nat} : ∀ {es : List Eff}, quietU U es → ∀ i, i ∈ U → (es.reverse.getD i noEff).bump = false
  | [], _, i, _ => by simp [List.getD, noEff]
  | e :: r, h, i, hi => by
    obtain ⟨h1, h2⟩ := h
    have ih := zlq h2 i hi
    simp only [List.reverse_cons, List.getD_eq_getElem?_getD, List.getElem?_append, List.length_reverse] at ih ⊢
    split
    · exact ih
    · rename_i hge
      by_cases e0 : i = r.length
      · subst e0
        rw [if_pos hi] at h1
        simpa using h1
      · have : ([e] : List Eff)[i - r.length]? = none := by simp; omega
        rw [this]; simp [noEff]
theorem zoi : ∀ {l : List Oper} {es : List Eff}, (∀ i o, l[i]? = some o → (es.getD i noEff).bump = true → o.dst ≠ none) → bumpB l es
  | [], _, _ => trivial
  | o :: l, [], _ => trivial
  | o :: l, e :: es, h => ⟨fun hb => h 0 o rfl (by simpa using hb), zoi fun i o' ho hb => h (i + 1) o' (by simpa using ho) (by simpa using hb)⟩
theorem WP.regD {id : Nat} {l : List Oper} (W U : List Nat) (hm : P.follows .mixedOrders = true) (hc : (dstB nt l && edgesB l.toArray && apartB l.toArray && apartW W (unordL l.toArray) && namedB U l) = true)
    (h : runK P (fun es s' => quietB W es 0 ∧ quietU U es ∧ Q .normal s') (prep l) [] s) : WP P nt (.region id l.toArray true) Q s := by
  obtain ⟨es, s', h1, h2, h3, h4⟩ := zhu h
  simp only [Bool.and_eq_true] at hc
  obtain ⟨⟨⟨⟨c1, c2⟩, c3⟩, c4⟩, c5⟩ := hc
  rw [List.append_nil] at h2 h3
  refine WP.regionD hm c1 c2 c3 h1 (zoi fun i o ho hb hn => ?_) (by simpa using zem (ops := l.toArray) h2 c4) h4
  have hi : i ∈ U := by
    have hlt : i < l.length := (List.getElem?_eq_some_iff.1 ho).1
    have := List.all_eq_true.1 c5 i (List.mem_range.2 hlt)
    simp only [ho, hn] at this
    simpa using this
  have := zlq h3 i hi
  rw [List.reverse_reverse] at this
  rw [this] at hb
  cases hb
def condK (p : PV) (x y : Prop) : Prop :=
  match p with
  | .bool b => (b = true → x) ∧ (b = false → y)
  | _ => False
@[simp] theorem condK_b {b : Bool} {x y : Prop} : condK (.bool b) x y = ((b = true → x) ∧ (b = false → y)) := rfl
theorem zay {b : Bool} {x y : Prop} (h : (b = true → x) ∧ (b = false → y)) : condK (.bool b) x y := h
theorem WP.condK' {c : Operand} {x y : Code} (h : condK (pv s.frame c) (WP P nt x Q s) (WP P nt y Q s)) : WP P nt (.cond c x y) Q s := by
  unfold condK at h
  split at h
  · rename_i b hb
    exact WP.cond b hb h.1 h.2
  · cases h
end
theorem wrap_i64 {x : Int} (h : -9223372036854775808 ≤ x ∧ x ≤ 9223372036854775807) : IntKind.wrap .i64 x = x := by
  rw [IntKind.wrap_i64]; omega
end Go.Proofs.YthgldcflcmlgpaaGreatDoorE
end
section
/- Contracts out of code, and calls by contract, in the form in which they are worked out. -/
set_option linter.unusedVariables false
set_option linter.unusedSimpArgs false
namespace Go.Proofs.YthgldcflcmlgpaaGreatDoorE
open Go.RowKit
def endR (P : Program) (rs : List ResultVar) (n : Nat) (r : PV) (rb : List Blk) (ret : List Id) (s : St) : Prop :=
  match resA P s rs with
  | some r0 => match expP s.store ret r0, expBs s.store ret ret with
    | some (r1, tl), some (rb1, tl') => r1 = r ∧ rb1 = rb ∧ ret.Nodup ∧ (∀ j, j < n → ret[j]? = some ⟨0, 0, j⟩) ∧ (∀ id ∈ tl ++ tl', id ∉ ret)
    | _, _ => False
  | none => False
def endK (P : Program) (rs : List ResultVar) (n : Nat) (r : PV) (rb : List Blk) : Exit → St → Prop
  | .normal, s | .ret, s => ∃ ret, endR P rs n r rb ret s
  | _, _ => False
theorem CallOk.of_wpK {P : Program} {f : FuncId} {fn : Func} {code : Code} {ps : List PV} {ib : List Blk} {r : PV} {rb : List Blk} {nt : Nat} {rs : List ResultVar} (hf : P.funcs[f]? = some fn) (hb : fn.body = some code) (hnt : fn.ntmps = nt)
    (hrs : fn.results.toList = rs) (hn : ps.length ≤ nt) (h : WP P nt code (endK P rs ib.length r rb) (st0 ps ib)) : CallOk P f ps ib r rb := by
  subst hnt
  subst hrs
  refine CallOk.of_wp hf hb hn (h.mono fun e s hq => ?_)
  cases e <;> simp only [endK] at hq <;> simp only [endQ]
  all_goals
    obtain ⟨ret, hq⟩ := hq
    unfold endR at hq
    split at hq
    · rename_i r0 h0
      split at hq
      · rename_i r1 tl rb1 tl' h1 h2
        obtain ⟨rfl, rfl, h3, h4, h5⟩ := hq
        exact ⟨r0, ret, tl, tl', h0, h1, h2, h3, h4, h5⟩
      · exact hq.elim
    · exact hq.elim
theorem CallOk.of_wpL {P : Program} {f : FuncId} {fn : Func} {code : Code} {ps : List PV} {ib : List Blk} {r : PV} {rb : List Blk} {nt : Nat} {rs : List ResultVar} (hf : P.funcs[f]? = some fn) (hb : fn.body = some code) (hnt : fn.ntmps = nt)
    (hrs : fn.results.toList = rs) (hn : ps.length ≤ nt) (h : WP P nt code (endK P rs ib.length r rb) ⟨fun t => ps.getD t .any, stOf ib, fun d => if d = 0 then 1 else 0⟩) : CallOk P f ps ib r rb := CallOk.of_wpK hf hb hnt hrs hn h
theorem zbu {P : Program} {o : Oper} {s : St} {K : Eff → Prop} {f : FuncId} {args : Array Operand} {at_ : Array TypeId} {d : Nat} {ps : List PV} {ib : List Blk} {r : PV} {rb : List Blk} (io tl1 tl2 : List Id) (fz : Bool) (hc : CallOk P f ps ib r rb) (hf : FnOk P f)
    (hside : (cellP r && rb.all (fun b => b.flat || b.cells.all cellB) && decide (io.length ≤ rb.length) && (fz || (rb.isEmpty && scalarP r))) = true)
    (ho : o.op = .call { callee := .value (.func f), args := args, argTypes := at_ }) (hd : o.dst = some d)
    (h1 : expL (expA s.store io) (args.toList.map (pv s.frame)) = some (ps, tl1)) (h2 : expBs s.store io io = some (ib, tl2)) (h3 : io.Nodup) (h4 : ∀ id ∈ tl1 ++ tl2, id ∉ io)
    (h5 : K (callE io (tl1 ++ tl2) d (s.gens d) r rb fz s.store)) : contK P o s none K := by
  show ∃ e, OpEff P o s e ∧ K e
  simp only [Bool.and_eq_true, decide_eq_true_eq, List.all_eq_true, Bool.or_eq_true] at hside
  obtain ⟨⟨⟨s1, s2⟩, s3⟩, s4⟩ := hside
  have key := opEff_call (P := P) (o := o) (s := s) ho (by rfl) hf h1 h2 h3 h4 hc s1 (fun b hb => by
    rcases s2 b hb with h | h
    · exact .inl h
    · exact .inr (List.all_eq_true.2 h)) s3 (.inr (by rw [hd]; simp)) (fz := fz) (by
    rcases s4 with h | ⟨h, h'⟩
    · exact .inl h
    · exact .inr ⟨by simpa using h, h'⟩) ⟨d, hd⟩
  rw [hd] at key
  exact ⟨_, key, h5⟩
theorem WP.seqI {P : Program} {nt : Nat} {x y : Code} {Q : Exit → St → Prop} {s : St} (J : St → Prop) (h1 : WP P nt x (thenQ J Q) s) (h2 : ∀ s', J s' → WP P nt y Q s') : WP P nt (.seq x y) Q s :=
  WP.seq (h1.mono fun e s' h => by cases e <;> first | exact h2 _ h | exact h)
end Go.Proofs.YthgldcflcmlgpaaGreatDoorE
end
section
/- Regions in which what writes stands beside what only moves. -/
set_option linter.unusedVariables false
set_option linter.unusedSimpArgs false
namespace Go.Proofs.YthgldcflcmlgpaaGreatDoorE
open Go.RowKit
def silentB (M : List Nat) : List Eff → Prop
  | [] => True
  | e :: r => (if r.length ∈ M then e.reads = [] ∧ e.wr = [] else True) ∧ silentB M r
def apartM (W M : List Nat) (l : List (Nat × Nat)) : Bool := l.all fun (i, j) => (!W.contains i && !W.contains j) || M.contains i || M.contains j
end Go.Proofs.YthgldcflcmlgpaaGreatDoorE
end
section
/- Words and the numbers that lists of them are. -/
set_option linter.unusedVariables false
namespace Go.Proofs.YthgldcflcmlgpaaGreatDoorE
def W : Nat := 4294967296
def val : List Nat → Nat
  | [] => 0
  | x :: r => x + 4294967296 * val r
def wf (l : List Nat) : Prop := ∀ x ∈ l, x < 4294967296
def trimL : List Nat → List Nat
  | [] => []
  | x :: r => match trimL r with
    | [] => if x = 0 then [] else [x]
    | y :: t => x :: y :: t
def nw (n : Nat) : List Nat := if h : n = 0 then [] else n % 4294967296 :: nw (n / 4294967296)
termination_by n
decreasing_by omega
theorem zaw : nw 0 = [] := by unfold nw; rfl
theorem zde {n : Nat} (h : n ≠ 0) : nw n = n % 4294967296 :: nw (n / 4294967296) := by
  conv => lhs; unfold nw
  rw [dif_neg h]
theorem wf_cons {x : Nat} {l : List Nat} : wf (x :: l) ↔ x < 4294967296 ∧ wf l := by simp [wf]
theorem zfk : wf [] := by simp [wf]
theorem zam (n : Nat) : val (nw n) = n := by
  induction n using Nat.strongRecOn with
  | _ n ih =>
    by_cases h : n = 0
    · subst h; rw [zaw]; rfl
    · rw [zde h]
      simp only [val]
      rw [ih _ (by omega)]
      omega
theorem zaq (n : Nat) : wf (nw n) := by
  induction n using Nat.strongRecOn with
  | _ n ih =>
    by_cases h : n = 0
    · subst h; rw [zaw]; exact zfk
    · rw [zde h]
      exact wf_cons.2 ⟨by omega, ih _ (by omega)⟩
theorem zba : ∀ {l : List Nat}, wf l → trimL l = nw (val l)
  | [], _ => by simp [trimL, val, zaw]
  | x :: r, h => by
    obtain ⟨h1, h2⟩ := wf_cons.1 h
    have ih := zba h2
    simp only [trimL, val]
    rw [ih]
    by_cases hv : val r = 0
    · rw [hv, zaw]
      simp only [Nat.mul_zero, Nat.add_zero]
      by_cases hx : x = 0
      · rw [if_pos hx, hx, zaw]
      · rw [if_neg hx, zde hx, Nat.mod_eq_of_lt h1, Nat.div_eq_of_lt h1, zaw]
    · have e : nw (x + 4294967296 * val r) = x :: nw (val r) := by
        rw [zde (by omega)]
        congr 1
        · omega
        · congr 1; omega
      rw [e, zde hv]
theorem val_trim {l : List Nat} (h : wf l) : val (trimL l) = val l := by rw [zba h, zam]
theorem zdn (a b : List Nat) : val (a ++ b) = val a + 4294967296 ^ a.length * val b := by
  induction a with
  | nil => simp [val]
  | cons x r ih => simp only [List.cons_append, val, ih, List.length_cons, Nat.pow_succ]; rw [Nat.mul_add, ← Nat.mul_assoc, Nat.mul_comm 4294967296 (4294967296 ^ r.length)]; omega
theorem zcg (l : List Nat) : (trimL l).length ≤ l.length := by
  induction l with
  | nil => simp [trimL]
  | cons x r ih =>
    simp only [trimL]
    split
    · split <;> simp
    · rename_i y t e; rw [e] at ih; simp at ih ⊢; omega
theorem trimL_snoc_zero (l : List Nat) : trimL (l ++ [0]) = trimL l := by
  induction l with
  | nil => rfl
  | cons x r ih => simp only [List.cons_append, trimL, ih]
theorem trimL_snoc_pos (l : List Nat) {x : Nat} (h : x ≠ 0) : trimL (l ++ [x]) = l ++ [x] := by
  induction l with
  | nil => simp [trimL, h]
  | cons y r ih =>
    simp only [List.cons_append, trimL, ih]
    cases hr : r ++ [x] with
    | nil => simp at hr
    | cons a b => rfl
def addL : List Nat → List Nat → Nat → List Nat
  | [], _, c => [c]
  | x :: r, b, c => (x + b.headD 0 + c) % 4294967296 :: addL r b.tail ((x + b.headD 0 + c) / 4294967296)
theorem zjt : ∀ (a b : List Nat) (c : Nat), b.length ≤ a.length → val (addL a b c) = val a + val b + c
  | [], b, c, h => by
    have : b = [] := List.eq_nil_of_length_eq_zero (by simpa using h)
    subst this
    simp [addL, val]
  | x :: r, [], c, h => by
    simp only [addL, val, List.headD_nil, List.tail_nil]
    rw [zjt r [] _ (by simp)]
    simp only [val]; omega
  | x :: r, y :: s, c, h => by
    simp only [addL, val, List.headD_cons, List.tail_cons]
    rw [zjt r s _ (by simpa using h)]
    omega
theorem zou : ∀ (a b : List Nat) (c : Nat), wf a → wf b → c < 4294967296 → wf (addL a b c)
  | [], b, c, _, _, hc => by simp [addL, wf, hc]
  | x :: r, b, c, ha, hb, hc => by
    obtain ⟨h1, h2⟩ := wf_cons.1 ha
    have hh : b.headD 0 < 4294967296 := by
      cases b with
      | nil => simp
      | cons y s => exact (wf_cons.1 hb).1
    have ht : wf b.tail := by
      cases b with
      | nil => exact zfk
      | cons y s => exact (wf_cons.1 hb).2
    exact wf_cons.2 ⟨Nat.mod_lt _ (by decide), zou r b.tail _ h2 ht (by omega)⟩
end Go.Proofs.YthgldcflcmlgpaaGreatDoorE
end
section
/- What the types of the program are. -/
set_option linter.unusedVariables false
namespace Go.Proofs.YthgldcflcmlgpaaGreatDoorE
open Go.RowKit
@[simp] theorem u2 : Go.Program.underlying Go.Proofs.Tryz.prog 2 = some (Go.TypeDesc.int Go.IntKind.i64) := by kernel_rfl
@[simp] theorem sz2 : szOf Go.Proofs.Tryz.prog 2 = some 1 := by kernel_rfl
@[simp] theorem by2 : byOf Go.Proofs.Tryz.prog 2 = some 8 := by kernel_rfl
@[simp] theorem ze2 : zeroOf Go.Proofs.Tryz.prog 2 = some [PV.int .i64 0] := by kernel_rfl
@[simp] theorem ag2 : aggOf Go.Proofs.Tryz.prog 2 = some false := by kernel_rfl
@[simp] theorem u3 : Go.Program.underlying Go.Proofs.Tryz.prog 3 = some (Go.TypeDesc.int Go.IntKind.i64) := by kernel_rfl
@[simp] theorem sz3 : szOf Go.Proofs.Tryz.prog 3 = some 1 := by kernel_rfl
@[simp] theorem by3 : byOf Go.Proofs.Tryz.prog 3 = some 8 := by kernel_rfl
@[simp] theorem ze3 : zeroOf Go.Proofs.Tryz.prog 3 = some [PV.int .i64 0] := by kernel_rfl
@[simp] theorem ag3 : aggOf Go.Proofs.Tryz.prog 3 = some false := by kernel_rfl
@[simp] theorem u4 : Go.Program.underlying Go.Proofs.Tryz.prog 4 = some (Go.TypeDesc.bool) := by kernel_rfl
@[simp] theorem sz4 : szOf Go.Proofs.Tryz.prog 4 = some 1 := by kernel_rfl
@[simp] theorem by4 : byOf Go.Proofs.Tryz.prog 4 = some 1 := by kernel_rfl
@[simp] theorem ze4 : zeroOf Go.Proofs.Tryz.prog 4 = some [PV.bool false] := by kernel_rfl
@[simp] theorem ag4 : aggOf Go.Proofs.Tryz.prog 4 = some false := by kernel_rfl
@[simp] theorem u5 : Go.Program.underlying Go.Proofs.Tryz.prog 5 = some (Go.TypeDesc.int Go.IntKind.u8) := by kernel_rfl
@[simp] theorem sz5 : szOf Go.Proofs.Tryz.prog 5 = some 1 := by kernel_rfl
@[simp] theorem by5 : byOf Go.Proofs.Tryz.prog 5 = some 1 := by kernel_rfl
@[simp] theorem ze5 : zeroOf Go.Proofs.Tryz.prog 5 = some [PV.int .u8 0] := by kernel_rfl
@[simp] theorem ag5 : aggOf Go.Proofs.Tryz.prog 5 = some false := by kernel_rfl
@[simp] theorem u7 : Go.Program.underlying Go.Proofs.Tryz.prog 7 = some (Go.TypeDesc.struct #[{ name := "x", type := 2, offset := 0, embedded := false, tag := "", pkgPath := "runtime", byteOffset := 0 }, { name := "y", type := 3, offset := 1, embedded := false, tag := "", pkgPath := "runtime", byteOffset := 8 }, { name := "signed", type := 4, offset := 2, embedded := false, tag := "", pkgPath := "runtime", byteOffset := 16 }, { name := "code", type := 6, offset := 3, embedded := false, tag := "", pkgPath := "runtime", byteOffset := 17 }]) := by kernel_rfl
@[simp] theorem sz7 : szOf Go.Proofs.Tryz.prog 7 = some 4 := by kernel_rfl
@[simp] theorem by7 : byOf Go.Proofs.Tryz.prog 7 = some 24 := by kernel_rfl
@[simp] theorem ze7 : zeroOf Go.Proofs.Tryz.prog 7 = some [PV.int .i64 0, PV.int .i64 0, PV.bool false, PV.int .u8 0] := by kernel_rfl
@[simp] theorem ag7 : aggOf Go.Proofs.Tryz.prog 7 = some true := by kernel_rfl
@[simp] theorem u9 : Go.Program.underlying Go.Proofs.Tryz.prog 9 = some (Go.TypeDesc.string) := by kernel_rfl
@[simp] theorem sz9 : szOf Go.Proofs.Tryz.prog 9 = some 1 := by kernel_rfl
@[simp] theorem by9 : byOf Go.Proofs.Tryz.prog 9 = some 16 := by kernel_rfl
@[simp] theorem ze9 : zeroOf Go.Proofs.Tryz.prog 9 = some [PV.str ByteArray.empty] := by kernel_rfl
@[simp] theorem ag9 : aggOf Go.Proofs.Tryz.prog 9 = some false := by kernel_rfl
@[simp] theorem u12 : Go.Program.underlying Go.Proofs.Tryz.prog 12 = some (Go.TypeDesc.int Go.IntKind.u64) := by kernel_rfl
@[simp] theorem sz12 : szOf Go.Proofs.Tryz.prog 12 = some 1 := by kernel_rfl
@[simp] theorem by12 : byOf Go.Proofs.Tryz.prog 12 = some 8 := by kernel_rfl
@[simp] theorem ze12 : zeroOf Go.Proofs.Tryz.prog 12 = some [PV.int .u64 0] := by kernel_rfl
@[simp] theorem ag12 : aggOf Go.Proofs.Tryz.prog 12 = some false := by kernel_rfl
@[simp] theorem u13 : Go.Program.underlying Go.Proofs.Tryz.prog 13 = some (Go.TypeDesc.struct #[{ name := "msg", type := 9, offset := 0, embedded := false, tag := "", pkgPath := "runtime", byteOffset := 0 }, { name := "addr", type := 12, offset := 1, embedded := false, tag := "", pkgPath := "runtime", byteOffset := 16 }]) := by kernel_rfl
@[simp] theorem sz13 : szOf Go.Proofs.Tryz.prog 13 = some 2 := by kernel_rfl
@[simp] theorem by13 : byOf Go.Proofs.Tryz.prog 13 = some 24 := by kernel_rfl
@[simp] theorem ze13 : zeroOf Go.Proofs.Tryz.prog 13 = some [PV.str ByteArray.empty, PV.int .u64 0] := by kernel_rfl
@[simp] theorem ag13 : aggOf Go.Proofs.Tryz.prog 13 = some true := by kernel_rfl
@[simp] theorem u21 : Go.Program.underlying Go.Proofs.Tryz.prog 21 = some (Go.TypeDesc.int Go.IntKind.i32) := by kernel_rfl
@[simp] theorem sz21 : szOf Go.Proofs.Tryz.prog 21 = some 1 := by kernel_rfl
@[simp] theorem by21 : byOf Go.Proofs.Tryz.prog 21 = some 4 := by kernel_rfl
@[simp] theorem ze21 : zeroOf Go.Proofs.Tryz.prog 21 = some [PV.int .i32 0] := by kernel_rfl
@[simp] theorem ag21 : aggOf Go.Proofs.Tryz.prog 21 = some false := by kernel_rfl
@[simp] theorem u22 : Go.Program.underlying Go.Proofs.Tryz.prog 22 = some (Go.TypeDesc.slice 104) := by kernel_rfl
@[simp] theorem sz22 : szOf Go.Proofs.Tryz.prog 22 = some 1 := by kernel_rfl
@[simp] theorem by22 : byOf Go.Proofs.Tryz.prog 22 = some 24 := by kernel_rfl
@[simp] theorem ze22 : zeroOf Go.Proofs.Tryz.prog 22 = some [PV.nilS] := by kernel_rfl
@[simp] theorem ag22 : aggOf Go.Proofs.Tryz.prog 22 = some false := by kernel_rfl
@[simp] theorem u23 : Go.Program.underlying Go.Proofs.Tryz.prog 23 = some (Go.TypeDesc.struct #[{ name := "Neg", type := 4, offset := 0, embedded := false, tag := "", pkgPath := "", byteOffset := 0 }, { name := "N", type := 22, offset := 1, embedded := false, tag := "", pkgPath := "", byteOffset := 8 }, { name := "D", type := 22, offset := 2, embedded := false, tag := "", pkgPath := "", byteOffset := 32 }]) := by kernel_rfl
@[simp] theorem sz23 : szOf Go.Proofs.Tryz.prog 23 = some 3 := by kernel_rfl
@[simp] theorem by23 : byOf Go.Proofs.Tryz.prog 23 = some 56 := by kernel_rfl
@[simp] theorem ze23 : zeroOf Go.Proofs.Tryz.prog 23 = some [PV.bool false, PV.nilS, PV.nilS] := by kernel_rfl
@[simp] theorem ag23 : aggOf Go.Proofs.Tryz.prog 23 = some true := by kernel_rfl
@[simp] theorem u24 : Go.Program.underlying Go.Proofs.Tryz.prog 24 = some (Go.TypeDesc.struct #[{ name := "Neg", type := 4, offset := 0, embedded := false, tag := "", pkgPath := "", byteOffset := 0 }, { name := "N", type := 22, offset := 1, embedded := false, tag := "", pkgPath := "", byteOffset := 8 }, { name := "D", type := 22, offset := 2, embedded := false, tag := "", pkgPath := "", byteOffset := 32 }]) := by kernel_rfl
@[simp] theorem sz24 : szOf Go.Proofs.Tryz.prog 24 = some 3 := by kernel_rfl
@[simp] theorem by24 : byOf Go.Proofs.Tryz.prog 24 = some 56 := by kernel_rfl
@[simp] theorem ze24 : zeroOf Go.Proofs.Tryz.prog 24 = some [PV.bool false, PV.nilS, PV.nilS] := by kernel_rfl
@[simp] theorem ag24 : aggOf Go.Proofs.Tryz.prog 24 = some true := by kernel_rfl
@[simp] theorem u25 : Go.Program.underlying Go.Proofs.Tryz.prog 25 = some (Go.TypeDesc.slice 24) := by kernel_rfl
@[simp] theorem sz25 : szOf Go.Proofs.Tryz.prog 25 = some 1 := by kernel_rfl
@[simp] theorem by25 : byOf Go.Proofs.Tryz.prog 25 = some 24 := by kernel_rfl
@[simp] theorem ze25 : zeroOf Go.Proofs.Tryz.prog 25 = some [PV.nilS] := by kernel_rfl
@[simp] theorem ag25 : aggOf Go.Proofs.Tryz.prog 25 = some false := by kernel_rfl
@[simp] theorem u26 : Go.Program.underlying Go.Proofs.Tryz.prog 26 = some (Go.TypeDesc.struct #[{ name := "T", type := 24, offset := 0, embedded := false, tag := "", pkgPath := "", byteOffset := 0 }, { name := "H", type := 24, offset := 3, embedded := false, tag := "", pkgPath := "", byteOffset := 56 }, { name := "Y0", type := 25, offset := 6, embedded := false, tag := "", pkgPath := "", byteOffset := 112 }, { name := "Y1", type := 25, offset := 7, embedded := false, tag := "", pkgPath := "", byteOffset := 136 }, { name := "F0", type := 25, offset := 8, embedded := false, tag := "", pkgPath := "", byteOffset := 160 }, { name := "F1", type := 25, offset := 9, embedded := false, tag := "", pkgPath := "", byteOffset := 184 }]) := by kernel_rfl
@[simp] theorem sz26 : szOf Go.Proofs.Tryz.prog 26 = some 10 := by kernel_rfl
@[simp] theorem by26 : byOf Go.Proofs.Tryz.prog 26 = some 208 := by kernel_rfl
@[simp] theorem ze26 : zeroOf Go.Proofs.Tryz.prog 26 = some [PV.bool false, PV.nilS, PV.nilS, PV.bool false, PV.nilS, PV.nilS, PV.nilS, PV.nilS, PV.nilS, PV.nilS] := by kernel_rfl
@[simp] theorem ag26 : aggOf Go.Proofs.Tryz.prog 26 = some true := by kernel_rfl
@[simp] theorem u27 : Go.Program.underlying Go.Proofs.Tryz.prog 27 = some (Go.TypeDesc.struct #[{ name := "T", type := 24, offset := 0, embedded := false, tag := "", pkgPath := "", byteOffset := 0 }, { name := "H", type := 24, offset := 3, embedded := false, tag := "", pkgPath := "", byteOffset := 56 }, { name := "Y0", type := 25, offset := 6, embedded := false, tag := "", pkgPath := "", byteOffset := 112 }, { name := "Y1", type := 25, offset := 7, embedded := false, tag := "", pkgPath := "", byteOffset := 136 }, { name := "F0", type := 25, offset := 8, embedded := false, tag := "", pkgPath := "", byteOffset := 160 }, { name := "F1", type := 25, offset := 9, embedded := false, tag := "", pkgPath := "", byteOffset := 184 }]) := by kernel_rfl
@[simp] theorem sz27 : szOf Go.Proofs.Tryz.prog 27 = some 10 := by kernel_rfl
@[simp] theorem by27 : byOf Go.Proofs.Tryz.prog 27 = some 208 := by kernel_rfl
@[simp] theorem ze27 : zeroOf Go.Proofs.Tryz.prog 27 = some [PV.bool false, PV.nilS, PV.nilS, PV.bool false, PV.nilS, PV.nilS, PV.nilS, PV.nilS, PV.nilS, PV.nilS] := by kernel_rfl
@[simp] theorem ag27 : aggOf Go.Proofs.Tryz.prog 27 = some true := by kernel_rfl
@[simp] theorem u31 : Go.Program.underlying Go.Proofs.Tryz.prog 31 = some (Go.TypeDesc.slice 37) := by kernel_rfl
@[simp] theorem sz31 : szOf Go.Proofs.Tryz.prog 31 = some 1 := by kernel_rfl
@[simp] theorem by31 : byOf Go.Proofs.Tryz.prog 31 = some 24 := by kernel_rfl
@[simp] theorem ze31 : zeroOf Go.Proofs.Tryz.prog 31 = some [PV.nilS] := by kernel_rfl
@[simp] theorem ag31 : aggOf Go.Proofs.Tryz.prog 31 = some false := by kernel_rfl
@[simp] theorem u34 : Go.Program.underlying Go.Proofs.Tryz.prog 34 = some (Go.TypeDesc.struct #[{ name := "Neg", type := 4, offset := 0, embedded := false, tag := "", pkgPath := "", byteOffset := 0 }, { name := "Abs", type := 22, offset := 1, embedded := false, tag := "", pkgPath := "", byteOffset := 8 }]) := by kernel_rfl
@[simp] theorem sz34 : szOf Go.Proofs.Tryz.prog 34 = some 2 := by kernel_rfl
@[simp] theorem by34 : byOf Go.Proofs.Tryz.prog 34 = some 32 := by kernel_rfl
@[simp] theorem ze34 : zeroOf Go.Proofs.Tryz.prog 34 = some [PV.bool false, PV.nilS] := by kernel_rfl
@[simp] theorem ag34 : aggOf Go.Proofs.Tryz.prog 34 = some true := by kernel_rfl
@[simp] theorem u35 : Go.Program.underlying Go.Proofs.Tryz.prog 35 = some (Go.TypeDesc.struct #[{ name := "Neg", type := 4, offset := 0, embedded := false, tag := "", pkgPath := "", byteOffset := 0 }, { name := "Abs", type := 22, offset := 1, embedded := false, tag := "", pkgPath := "", byteOffset := 8 }]) := by kernel_rfl
@[simp] theorem sz35 : szOf Go.Proofs.Tryz.prog 35 = some 2 := by kernel_rfl
@[simp] theorem by35 : byOf Go.Proofs.Tryz.prog 35 = some 32 := by kernel_rfl
@[simp] theorem ze35 : zeroOf Go.Proofs.Tryz.prog 35 = some [PV.bool false, PV.nilS] := by kernel_rfl
@[simp] theorem ag35 : aggOf Go.Proofs.Tryz.prog 35 = some true := by kernel_rfl
@[simp] theorem u36 : Go.Program.underlying Go.Proofs.Tryz.prog 36 = some (Go.TypeDesc.struct #[{ name := "Num", type := 35, offset := 0, embedded := false, tag := "", pkgPath := "", byteOffset := 0 }, { name := "Den", type := 22, offset := 2, embedded := false, tag := "", pkgPath := "", byteOffset := 32 }]) := by kernel_rfl
@[simp] theorem sz36 : szOf Go.Proofs.Tryz.prog 36 = some 3 := by kernel_rfl
@[simp] theorem by36 : byOf Go.Proofs.Tryz.prog 36 = some 56 := by kernel_rfl
@[simp] theorem ze36 : zeroOf Go.Proofs.Tryz.prog 36 = some [PV.bool false, PV.nilS, PV.nilS] := by kernel_rfl
@[simp] theorem ag36 : aggOf Go.Proofs.Tryz.prog 36 = some true := by kernel_rfl
@[simp] theorem u37 : Go.Program.underlying Go.Proofs.Tryz.prog 37 = some (Go.TypeDesc.struct #[{ name := "Num", type := 35, offset := 0, embedded := false, tag := "", pkgPath := "", byteOffset := 0 }, { name := "Den", type := 22, offset := 2, embedded := false, tag := "", pkgPath := "", byteOffset := 32 }]) := by kernel_rfl
@[simp] theorem sz37 : szOf Go.Proofs.Tryz.prog 37 = some 3 := by kernel_rfl
@[simp] theorem by37 : byOf Go.Proofs.Tryz.prog 37 = some 56 := by kernel_rfl
@[simp] theorem ze37 : zeroOf Go.Proofs.Tryz.prog 37 = some [PV.bool false, PV.nilS, PV.nilS] := by kernel_rfl
@[simp] theorem ag37 : aggOf Go.Proofs.Tryz.prog 37 = some true := by kernel_rfl
@[simp] theorem u38 : Go.Program.underlying Go.Proofs.Tryz.prog 38 = some (Go.TypeDesc.struct #[{ name := "T", type := 37, offset := 0, embedded := false, tag := "", pkgPath := "", byteOffset := 0 }, { name := "H", type := 37, offset := 3, embedded := false, tag := "", pkgPath := "", byteOffset := 56 }, { name := "Y0", type := 31, offset := 6, embedded := false, tag := "", pkgPath := "", byteOffset := 112 }, { name := "Y1", type := 31, offset := 7, embedded := false, tag := "", pkgPath := "", byteOffset := 136 }, { name := "F0", type := 31, offset := 8, embedded := false, tag := "", pkgPath := "", byteOffset := 160 }, { name := "F1", type := 31, offset := 9, embedded := false, tag := "", pkgPath := "", byteOffset := 184 }]) := by kernel_rfl
@[simp] theorem sz38 : szOf Go.Proofs.Tryz.prog 38 = some 10 := by kernel_rfl
@[simp] theorem by38 : byOf Go.Proofs.Tryz.prog 38 = some 208 := by kernel_rfl
@[simp] theorem ze38 : zeroOf Go.Proofs.Tryz.prog 38 = some [PV.bool false, PV.nilS, PV.nilS, PV.bool false, PV.nilS, PV.nilS, PV.nilS, PV.nilS, PV.nilS, PV.nilS] := by kernel_rfl
@[simp] theorem ag38 : aggOf Go.Proofs.Tryz.prog 38 = some true := by kernel_rfl
@[simp] theorem u39 : Go.Program.underlying Go.Proofs.Tryz.prog 39 = some (Go.TypeDesc.struct #[{ name := "T", type := 37, offset := 0, embedded := false, tag := "", pkgPath := "", byteOffset := 0 }, { name := "H", type := 37, offset := 3, embedded := false, tag := "", pkgPath := "", byteOffset := 56 }, { name := "Y0", type := 31, offset := 6, embedded := false, tag := "", pkgPath := "", byteOffset := 112 }, { name := "Y1", type := 31, offset := 7, embedded := false, tag := "", pkgPath := "", byteOffset := 136 }, { name := "F0", type := 31, offset := 8, embedded := false, tag := "", pkgPath := "", byteOffset := 160 }, { name := "F1", type := 31, offset := 9, embedded := false, tag := "", pkgPath := "", byteOffset := 184 }]) := by kernel_rfl
@[simp] theorem sz39 : szOf Go.Proofs.Tryz.prog 39 = some 10 := by kernel_rfl
@[simp] theorem by39 : byOf Go.Proofs.Tryz.prog 39 = some 208 := by kernel_rfl
@[simp] theorem ze39 : zeroOf Go.Proofs.Tryz.prog 39 = some [PV.bool false, PV.nilS, PV.nilS, PV.bool false, PV.nilS, PV.nilS, PV.nilS, PV.nilS, PV.nilS, PV.nilS] := by kernel_rfl
@[simp] theorem ag39 : aggOf Go.Proofs.Tryz.prog 39 = some true := by kernel_rfl
@[simp] theorem u48 : Go.Program.underlying Go.Proofs.Tryz.prog 48 = some (Go.TypeDesc.array 3 24) := by kernel_rfl
@[simp] theorem sz48 : szOf Go.Proofs.Tryz.prog 48 = some 9 := by kernel_rfl
@[simp] theorem by48 : byOf Go.Proofs.Tryz.prog 48 = some 168 := by kernel_rfl
@[simp] theorem ze48 : zeroOf Go.Proofs.Tryz.prog 48 = some [PV.bool false, PV.nilS, PV.nilS, PV.bool false, PV.nilS, PV.nilS, PV.bool false, PV.nilS, PV.nilS] := by kernel_rfl
@[simp] theorem ag48 : aggOf Go.Proofs.Tryz.prog 48 = some true := by kernel_rfl
@[simp] theorem u58 : Go.Program.underlying Go.Proofs.Tryz.prog 58 = some (Go.TypeDesc.struct #[{ name := "Kind", type := 3, offset := 0, embedded := false, tag := "", pkgPath := "", byteOffset := 0 }, { name := "Step", type := 3, offset := 1, embedded := false, tag := "", pkgPath := "", byteOffset := 8 }, { name := "Stage", type := 3, offset := 2, embedded := false, tag := "", pkgPath := "", byteOffset := 16 }, { name := "At", type := 3, offset := 3, embedded := false, tag := "", pkgPath := "", byteOffset := 24 }]) := by kernel_rfl
@[simp] theorem sz58 : szOf Go.Proofs.Tryz.prog 58 = some 4 := by kernel_rfl
@[simp] theorem by58 : byOf Go.Proofs.Tryz.prog 58 = some 32 := by kernel_rfl
@[simp] theorem ze58 : zeroOf Go.Proofs.Tryz.prog 58 = some [PV.int .i64 0, PV.int .i64 0, PV.int .i64 0, PV.int .i64 0] := by kernel_rfl
@[simp] theorem ag58 : aggOf Go.Proofs.Tryz.prog 58 = some true := by kernel_rfl
@[simp] theorem eq58 : eqT Go.Proofs.Tryz.prog 58 = true := by kernel_rfl
@[simp] theorem u59 : Go.Program.underlying Go.Proofs.Tryz.prog 59 = some (Go.TypeDesc.struct #[{ name := "Kind", type := 3, offset := 0, embedded := false, tag := "", pkgPath := "", byteOffset := 0 }, { name := "Step", type := 3, offset := 1, embedded := false, tag := "", pkgPath := "", byteOffset := 8 }, { name := "Stage", type := 3, offset := 2, embedded := false, tag := "", pkgPath := "", byteOffset := 16 }, { name := "At", type := 3, offset := 3, embedded := false, tag := "", pkgPath := "", byteOffset := 24 }]) := by kernel_rfl
@[simp] theorem sz59 : szOf Go.Proofs.Tryz.prog 59 = some 4 := by kernel_rfl
@[simp] theorem by59 : byOf Go.Proofs.Tryz.prog 59 = some 32 := by kernel_rfl
@[simp] theorem ze59 : zeroOf Go.Proofs.Tryz.prog 59 = some [PV.int .i64 0, PV.int .i64 0, PV.int .i64 0, PV.int .i64 0] := by kernel_rfl
@[simp] theorem ag59 : aggOf Go.Proofs.Tryz.prog 59 = some true := by kernel_rfl
@[simp] theorem eq59 : eqT Go.Proofs.Tryz.prog 59 = true := by kernel_rfl
@[simp] theorem u80 : Go.Program.underlying Go.Proofs.Tryz.prog 80 = some (Go.TypeDesc.slice 25) := by kernel_rfl
@[simp] theorem sz80 : szOf Go.Proofs.Tryz.prog 80 = some 1 := by kernel_rfl
@[simp] theorem by80 : byOf Go.Proofs.Tryz.prog 80 = some 24 := by kernel_rfl
@[simp] theorem ze80 : zeroOf Go.Proofs.Tryz.prog 80 = some [PV.nilS] := by kernel_rfl
@[simp] theorem ag80 : aggOf Go.Proofs.Tryz.prog 80 = some false := by kernel_rfl
@[simp] theorem u81 : Go.Program.underlying Go.Proofs.Tryz.prog 81 = some (Go.TypeDesc.slice 31) := by kernel_rfl
@[simp] theorem sz81 : szOf Go.Proofs.Tryz.prog 81 = some 1 := by kernel_rfl
@[simp] theorem by81 : byOf Go.Proofs.Tryz.prog 81 = some 24 := by kernel_rfl
@[simp] theorem ze81 : zeroOf Go.Proofs.Tryz.prog 81 = some [PV.nilS] := by kernel_rfl
@[simp] theorem ag81 : aggOf Go.Proofs.Tryz.prog 81 = some false := by kernel_rfl
@[simp] theorem u88 : Go.Program.underlying Go.Proofs.Tryz.prog 88 = some (Go.TypeDesc.array 2 3) := by kernel_rfl
@[simp] theorem sz88 : szOf Go.Proofs.Tryz.prog 88 = some 2 := by kernel_rfl
@[simp] theorem by88 : byOf Go.Proofs.Tryz.prog 88 = some 16 := by kernel_rfl
@[simp] theorem ze88 : zeroOf Go.Proofs.Tryz.prog 88 = some [PV.int .i64 0, PV.int .i64 0] := by kernel_rfl
@[simp] theorem ag88 : aggOf Go.Proofs.Tryz.prog 88 = some true := by kernel_rfl
@[simp] theorem u104 : Go.Program.underlying Go.Proofs.Tryz.prog 104 = some (Go.TypeDesc.int Go.IntKind.u32) := by kernel_rfl
@[simp] theorem sz104 : szOf Go.Proofs.Tryz.prog 104 = some 1 := by kernel_rfl
@[simp] theorem by104 : byOf Go.Proofs.Tryz.prog 104 = some 4 := by kernel_rfl
@[simp] theorem ze104 : zeroOf Go.Proofs.Tryz.prog 104 = some [PV.int .u32 0] := by kernel_rfl
@[simp] theorem ag104 : aggOf Go.Proofs.Tryz.prog 104 = some false := by kernel_rfl
@[simp] theorem u117 : Go.Program.underlying Go.Proofs.Tryz.prog 117 = some (Go.TypeDesc.slice 9) := by kernel_rfl
@[simp] theorem sz117 : szOf Go.Proofs.Tryz.prog 117 = some 1 := by kernel_rfl
@[simp] theorem by117 : byOf Go.Proofs.Tryz.prog 117 = some 24 := by kernel_rfl
@[simp] theorem ze117 : zeroOf Go.Proofs.Tryz.prog 117 = some [PV.nilS] := by kernel_rfl
@[simp] theorem ag117 : aggOf Go.Proofs.Tryz.prog 117 = some false := by kernel_rfl
@[simp] theorem u127 : Go.Program.underlying Go.Proofs.Tryz.prog 127 = some (Go.TypeDesc.int Go.IntKind.u64) := by kernel_rfl
@[simp] theorem sz127 : szOf Go.Proofs.Tryz.prog 127 = some 1 := by kernel_rfl
@[simp] theorem by127 : byOf Go.Proofs.Tryz.prog 127 = some 8 := by kernel_rfl
@[simp] theorem ze127 : zeroOf Go.Proofs.Tryz.prog 127 = some [PV.int .u64 0] := by kernel_rfl
@[simp] theorem ag127 : aggOf Go.Proofs.Tryz.prog 127 = some false := by kernel_rfl
@[simp] theorem u153 : Go.Program.underlying Go.Proofs.Tryz.prog 153 = some (Go.TypeDesc.struct #[{ name := "Neg", type := 4, offset := 0, embedded := false, tag := "", pkgPath := "", byteOffset := 0 }, { name := "Abs", type := 22, offset := 1, embedded := false, tag := "", pkgPath := "", byteOffset := 8 }]) := by kernel_rfl
@[simp] theorem sz153 : szOf Go.Proofs.Tryz.prog 153 = some 2 := by kernel_rfl
@[simp] theorem by153 : byOf Go.Proofs.Tryz.prog 153 = some 32 := by kernel_rfl
@[simp] theorem ze153 : zeroOf Go.Proofs.Tryz.prog 153 = some [PV.bool false, PV.nilS] := by kernel_rfl
@[simp] theorem ag153 : aggOf Go.Proofs.Tryz.prog 153 = some true := by kernel_rfl
@[simp] theorem u161 : Go.Program.underlying Go.Proofs.Tryz.prog 161 = some (Go.TypeDesc.pointer 164) := by kernel_rfl
@[simp] theorem sz161 : szOf Go.Proofs.Tryz.prog 161 = some 1 := by kernel_rfl
@[simp] theorem by161 : byOf Go.Proofs.Tryz.prog 161 = some 8 := by kernel_rfl
@[simp] theorem ze161 : zeroOf Go.Proofs.Tryz.prog 161 = some [PV.nilP] := by kernel_rfl
@[simp] theorem ag161 : aggOf Go.Proofs.Tryz.prog 161 = some false := by kernel_rfl
@[simp] theorem u162 : Go.Program.underlying Go.Proofs.Tryz.prog 162 = some (Go.TypeDesc.slice 5) := by kernel_rfl
@[simp] theorem sz162 : szOf Go.Proofs.Tryz.prog 162 = some 1 := by kernel_rfl
@[simp] theorem by162 : byOf Go.Proofs.Tryz.prog 162 = some 24 := by kernel_rfl
@[simp] theorem ze162 : zeroOf Go.Proofs.Tryz.prog 162 = some [PV.nilS] := by kernel_rfl
@[simp] theorem ag162 : aggOf Go.Proofs.Tryz.prog 162 = some false := by kernel_rfl
@[simp] theorem u163 : Go.Program.underlying Go.Proofs.Tryz.prog 163 = some (Go.TypeDesc.struct #[{ name := "addr", type := 161, offset := 0, embedded := false, tag := "", pkgPath := "strings", byteOffset := 0 }, { name := "buf", type := 162, offset := 1, embedded := false, tag := "", pkgPath := "strings", byteOffset := 8 }]) := by kernel_rfl
@[simp] theorem sz163 : szOf Go.Proofs.Tryz.prog 163 = some 2 := by kernel_rfl
@[simp] theorem by163 : byOf Go.Proofs.Tryz.prog 163 = some 32 := by kernel_rfl
@[simp] theorem ze163 : zeroOf Go.Proofs.Tryz.prog 163 = some [PV.nilP, PV.nilS] := by kernel_rfl
@[simp] theorem ag163 : aggOf Go.Proofs.Tryz.prog 163 = some true := by kernel_rfl
@[simp] theorem u164 : Go.Program.underlying Go.Proofs.Tryz.prog 164 = some (Go.TypeDesc.struct #[{ name := "addr", type := 161, offset := 0, embedded := false, tag := "", pkgPath := "strings", byteOffset := 0 }, { name := "buf", type := 162, offset := 1, embedded := false, tag := "", pkgPath := "strings", byteOffset := 8 }]) := by kernel_rfl
@[simp] theorem sz164 : szOf Go.Proofs.Tryz.prog 164 = some 2 := by kernel_rfl
@[simp] theorem by164 : byOf Go.Proofs.Tryz.prog 164 = some 32 := by kernel_rfl
@[simp] theorem ze164 : zeroOf Go.Proofs.Tryz.prog 164 = some [PV.nilP, PV.nilS] := by kernel_rfl
@[simp] theorem ag164 : aggOf Go.Proofs.Tryz.prog 164 = some true := by kernel_rfl
@[simp] theorem u177 : Go.Program.underlying Go.Proofs.Tryz.prog 177 = some (Go.TypeDesc.int Go.IntKind.u64) := by kernel_rfl
@[simp] theorem sz177 : szOf Go.Proofs.Tryz.prog 177 = some 1 := by kernel_rfl
@[simp] theorem by177 : byOf Go.Proofs.Tryz.prog 177 = some 8 := by kernel_rfl
@[simp] theorem ze177 : zeroOf Go.Proofs.Tryz.prog 177 = some [PV.int .u64 0] := by kernel_rfl
@[simp] theorem ag177 : aggOf Go.Proofs.Tryz.prog 177 = some false := by kernel_rfl
@[simp] theorem u184 : Go.Program.underlying Go.Proofs.Tryz.prog 184 = some (Go.TypeDesc.slice 22) := by kernel_rfl
@[simp] theorem sz184 : szOf Go.Proofs.Tryz.prog 184 = some 1 := by kernel_rfl
@[simp] theorem by184 : byOf Go.Proofs.Tryz.prog 184 = some 24 := by kernel_rfl
@[simp] theorem ze184 : zeroOf Go.Proofs.Tryz.prog 184 = some [PV.nilS] := by kernel_rfl
@[simp] theorem ag184 : aggOf Go.Proofs.Tryz.prog 184 = some false := by kernel_rfl
@[simp] theorem u192 : Go.Program.underlying Go.Proofs.Tryz.prog 192 = some (Go.TypeDesc.array 256 4) := by kernel_rfl
@[simp] theorem sz192 : szOf Go.Proofs.Tryz.prog 192 = some 256 := by kernel_rfl
@[simp] theorem by192 : byOf Go.Proofs.Tryz.prog 192 = some 256 := by kernel_rfl
@[simp] theorem ag192 : aggOf Go.Proofs.Tryz.prog 192 = some true := by kernel_rfl
@[simp] theorem u193 : Go.Program.underlying Go.Proofs.Tryz.prog 193 = some (Go.TypeDesc.array 256 4) := by kernel_rfl
@[simp] theorem sz193 : szOf Go.Proofs.Tryz.prog 193 = some 256 := by kernel_rfl
@[simp] theorem by193 : byOf Go.Proofs.Tryz.prog 193 = some 256 := by kernel_rfl
@[simp] theorem ag193 : aggOf Go.Proofs.Tryz.prog 193 = some true := by kernel_rfl
@[simp] theorem u207 : Go.Program.underlying Go.Proofs.Tryz.prog 207 = some (Go.TypeDesc.pointer 5) := by kernel_rfl
@[simp] theorem sz207 : szOf Go.Proofs.Tryz.prog 207 = some 1 := by kernel_rfl
@[simp] theorem by207 : byOf Go.Proofs.Tryz.prog 207 = some 8 := by kernel_rfl
@[simp] theorem ze207 : zeroOf Go.Proofs.Tryz.prog 207 = some [PV.nilP] := by kernel_rfl
@[simp] theorem ag207 : aggOf Go.Proofs.Tryz.prog 207 = some false := by kernel_rfl
@[simp] theorem u220 : Go.Program.underlying Go.Proofs.Tryz.prog 220 = some (Go.TypeDesc.pointer 193) := by kernel_rfl
@[simp] theorem sz220 : szOf Go.Proofs.Tryz.prog 220 = some 1 := by kernel_rfl
@[simp] theorem by220 : byOf Go.Proofs.Tryz.prog 220 = some 8 := by kernel_rfl
@[simp] theorem ze220 : zeroOf Go.Proofs.Tryz.prog 220 = some [PV.nilP] := by kernel_rfl
@[simp] theorem ag220 : aggOf Go.Proofs.Tryz.prog 220 = some false := by kernel_rfl
@[simp] theorem u225 : Go.Program.underlying Go.Proofs.Tryz.prog 225 = some (Go.TypeDesc.array 9 5) := by kernel_rfl
@[simp] theorem sz225 : szOf Go.Proofs.Tryz.prog 225 = some 9 := by kernel_rfl
@[simp] theorem by225 : byOf Go.Proofs.Tryz.prog 225 = some 9 := by kernel_rfl
@[simp] theorem ze225 : zeroOf Go.Proofs.Tryz.prog 225 = some [PV.int .u8 0, PV.int .u8 0, PV.int .u8 0, PV.int .u8 0, PV.int .u8 0, PV.int .u8 0, PV.int .u8 0, PV.int .u8 0, PV.int .u8 0] := by kernel_rfl
@[simp] theorem ag225 : aggOf Go.Proofs.Tryz.prog 225 = some true := by kernel_rfl
@[simp] theorem u228 : Go.Program.underlying Go.Proofs.Tryz.prog 228 = some (Go.TypeDesc.unsafePointer) := by kernel_rfl
@[simp] theorem sz228 : szOf Go.Proofs.Tryz.prog 228 = some 1 := by kernel_rfl
@[simp] theorem by228 : byOf Go.Proofs.Tryz.prog 228 = some 8 := by kernel_rfl
@[simp] theorem ze228 : zeroOf Go.Proofs.Tryz.prog 228 = some [PV.nilP] := by kernel_rfl
@[simp] theorem ag228 : aggOf Go.Proofs.Tryz.prog 228 = some false := by kernel_rfl
@[simp] theorem u235 : Go.Program.underlying Go.Proofs.Tryz.prog 235 = some (Go.TypeDesc.array 256 5) := by kernel_rfl
@[simp] theorem sz235 : szOf Go.Proofs.Tryz.prog 235 = some 256 := by kernel_rfl
@[simp] theorem by235 : byOf Go.Proofs.Tryz.prog 235 = some 256 := by kernel_rfl
@[simp] theorem ag235 : aggOf Go.Proofs.Tryz.prog 235 = some true := by kernel_rfl
@[simp] theorem u236 : Go.Program.underlying Go.Proofs.Tryz.prog 236 = some (Go.TypeDesc.struct #[{ name := "lo", type := 5, offset := 0, embedded := false, tag := "", pkgPath := "unicode/utf8", byteOffset := 0 }, { name := "hi", type := 5, offset := 1, embedded := false, tag := "", pkgPath := "unicode/utf8", byteOffset := 1 }]) := by kernel_rfl
@[simp] theorem sz236 : szOf Go.Proofs.Tryz.prog 236 = some 2 := by kernel_rfl
@[simp] theorem by236 : byOf Go.Proofs.Tryz.prog 236 = some 2 := by kernel_rfl
@[simp] theorem ze236 : zeroOf Go.Proofs.Tryz.prog 236 = some [PV.int .u8 0, PV.int .u8 0] := by kernel_rfl
@[simp] theorem ag236 : aggOf Go.Proofs.Tryz.prog 236 = some true := by kernel_rfl
@[simp] theorem eq236 : eqT Go.Proofs.Tryz.prog 236 = true := by kernel_rfl
@[simp] theorem u237 : Go.Program.underlying Go.Proofs.Tryz.prog 237 = some (Go.TypeDesc.struct #[{ name := "lo", type := 5, offset := 0, embedded := false, tag := "", pkgPath := "unicode/utf8", byteOffset := 0 }, { name := "hi", type := 5, offset := 1, embedded := false, tag := "", pkgPath := "unicode/utf8", byteOffset := 1 }]) := by kernel_rfl
@[simp] theorem sz237 : szOf Go.Proofs.Tryz.prog 237 = some 2 := by kernel_rfl
@[simp] theorem by237 : byOf Go.Proofs.Tryz.prog 237 = some 2 := by kernel_rfl
@[simp] theorem ze237 : zeroOf Go.Proofs.Tryz.prog 237 = some [PV.int .u8 0, PV.int .u8 0] := by kernel_rfl
@[simp] theorem ag237 : aggOf Go.Proofs.Tryz.prog 237 = some true := by kernel_rfl
@[simp] theorem eq237 : eqT Go.Proofs.Tryz.prog 237 = true := by kernel_rfl
@[simp] theorem u238 : Go.Program.underlying Go.Proofs.Tryz.prog 238 = some (Go.TypeDesc.array 16 237) := by kernel_rfl
@[simp] theorem sz238 : szOf Go.Proofs.Tryz.prog 238 = some 32 := by kernel_rfl
@[simp] theorem by238 : byOf Go.Proofs.Tryz.prog 238 = some 32 := by kernel_rfl
@[simp] theorem ag238 : aggOf Go.Proofs.Tryz.prog 238 = some true := by kernel_rfl
@[simp] theorem u240 : Go.Program.underlying Go.Proofs.Tryz.prog 240 = some (Go.TypeDesc.struct #[{ name := "_interface", type := 17, offset := 0, embedded := false, tag := "", pkgPath := "runtime", byteOffset := 0 }, { name := "concrete", type := 17, offset := 1, embedded := false, tag := "", pkgPath := "runtime", byteOffset := 8 }, { name := "asserted", type := 17, offset := 2, embedded := false, tag := "", pkgPath := "runtime", byteOffset := 16 }, { name := "missingMethod", type := 9, offset := 3, embedded := false, tag := "", pkgPath := "runtime", byteOffset := 24 }]) := by kernel_rfl
@[simp] theorem sz240 : szOf Go.Proofs.Tryz.prog 240 = some 4 := by kernel_rfl
@[simp] theorem by240 : byOf Go.Proofs.Tryz.prog 240 = some 40 := by kernel_rfl
@[simp] theorem ze240 : zeroOf Go.Proofs.Tryz.prog 240 = some [PV.nilP, PV.nilP, PV.nilP, PV.str ByteArray.empty] := by kernel_rfl
@[simp] theorem ag240 : aggOf Go.Proofs.Tryz.prog 240 = some true := by kernel_rfl
@[simp] theorem u242 : Go.Program.underlying Go.Proofs.Tryz.prog 242 = some (Go.TypeDesc.array 0 16) := by kernel_rfl
@[simp] theorem sz242 : szOf Go.Proofs.Tryz.prog 242 = some 0 := by kernel_rfl
@[simp] theorem by242 : byOf Go.Proofs.Tryz.prog 242 = some 0 := by kernel_rfl
@[simp] theorem ze242 : zeroOf Go.Proofs.Tryz.prog 242 = some [] := by kernel_rfl
@[simp] theorem ag242 : aggOf Go.Proofs.Tryz.prog 242 = some true := by kernel_rfl
@[simp] theorem u243 : Go.Program.underlying Go.Proofs.Tryz.prog 243 = some (Go.TypeDesc.struct #[{ name := "_", type := 242, offset := 0, embedded := false, tag := "", pkgPath := "runtime", byteOffset := 0 }]) := by kernel_rfl
@[simp] theorem sz243 : szOf Go.Proofs.Tryz.prog 243 = some 0 := by kernel_rfl
@[simp] theorem by243 : byOf Go.Proofs.Tryz.prog 243 = some 0 := by kernel_rfl
@[simp] theorem ze243 : zeroOf Go.Proofs.Tryz.prog 243 = some [] := by kernel_rfl
@[simp] theorem ag243 : aggOf Go.Proofs.Tryz.prog 243 = some true := by kernel_rfl
@[simp] theorem u251 : Go.Program.underlying Go.Proofs.Tryz.prog 251 = some (Go.TypeDesc.struct #[{ name := "Size_", type := 12, offset := 0, embedded := false, tag := "", pkgPath := "", byteOffset := 0 }, { name := "PtrBytes", type := 12, offset := 1, embedded := false, tag := "", pkgPath := "", byteOffset := 8 }, { name := "Hash", type := 104, offset := 2, embedded := false, tag := "", pkgPath := "", byteOffset := 16 }, { name := "TFlag", type := 246, offset := 3, embedded := false, tag := "", pkgPath := "", byteOffset := 20 }, { name := "Align_", type := 5, offset := 4, embedded := false, tag := "", pkgPath := "", byteOffset := 21 }, { name := "FieldAlign_", type := 5, offset := 5, embedded := false, tag := "", pkgPath := "", byteOffset := 22 }, { name := "Kind_", type := 247, offset := 6, embedded := false, tag := "", pkgPath := "", byteOffset := 23 }, { name := "Equal", type := 248, offset := 7, embedded := false, tag := "", pkgPath := "", byteOffset := 24 }, { name := "GCData", type := 207, offset := 8, embedded := false, tag := "", pkgPath := "", byteOffset := 32 }, { name := "Str", type := 249, offset := 9, embedded := false, tag := "", pkgPath := "", byteOffset := 40 }, { name := "PtrToThis", type := 250, offset := 10, embedded := false, tag := "", pkgPath := "", byteOffset := 44 }]) := by kernel_rfl
@[simp] theorem sz251 : szOf Go.Proofs.Tryz.prog 251 = some 11 := by kernel_rfl
@[simp] theorem by251 : byOf Go.Proofs.Tryz.prog 251 = some 48 := by kernel_rfl
@[simp] theorem ze251 : zeroOf Go.Proofs.Tryz.prog 251 = some [PV.int .u64 0, PV.int .u64 0, PV.int .u32 0, PV.int .u8 0, PV.int .u8 0, PV.int .u8 0, PV.int .u8 0, PV.nilF, PV.nilP, PV.int .i32 0, PV.int .i32 0] := by kernel_rfl
@[simp] theorem ag251 : aggOf Go.Proofs.Tryz.prog 251 = some true := by kernel_rfl
theorem zai : Go.Proofs.Tryz.prog.follows .mixedOrders = true := by kernel_rfl
end Go.Proofs.YthgldcflcmlgpaaGreatDoorE
end
section
/- Words: sum, difference, product, quotient of words. -/
set_option linter.unusedVariables false
set_option linter.unusedSimpArgs false
namespace Go.Proofs.YthgldcflcmlgpaaGreatDoorE
open Go.RowKit
set_option maxRecDepth 100000
attribute [local simp] List.getElem?_cons_zero List.getElem?_cons_succ List.getElem?_nil wrap_i64 stOf st0 effF effC evalV evalL zpb zmj pv ofConst binV binI lenV foldV mx2 mn2 unV convV extractV idxV indexV fieldAddrV fieldV partV sliceV boundsV loadL live storeE appendE srcV litE makeE IntKind.bits copyE boxE allocE flatParts flatCs flatC allParts cellsOf solid leafB fillL frzL buildV fillP placeS eqFl eqCell St.eff St.put wrs callE renP renA renC renI nid newL renB noEff endK endR resA resL resV expP expA expC expN expL expBs expB idx thenQ blockQ wantK
theorem wrap_u32 (x : Int) : IntKind.wrap .u32 x = x % 4294967296 := IntKind.wrap_u32 x
theorem zfj (x : Int) : IntKind.wrap .u64 x = x % 18446744073709551616 := by simp [IntKind.wrap, IntKind.bits, IntKind.signed]
theorem zas {x : Int} (h : 0 ≤ x ∧ x ≤ 18446744073709551615) : IntKind.wrap .u64 x = x := by rw [zfj]; omega
attribute [local simp] wrap_u32 zas
def w32 (n : Nat) : PV := .int .u32 (n : Int)
theorem zkm (x y c : Nat) (hx : x < 4294967296) (hy : y < 4294967296) (hc : c < 4294967296) :
    CallOk Tryz.prog 195 [w32 x, w32 y, w32 c] [] (.tup [w32 ((x + y + c) % 4294967296), w32 ((x + y + c) / 4294967296)]) [] := by
  refine CallOk.of_wpL Tryz.func195 rfl rfl rfl (Nat.le_of_ble_eq_true rfl) ?_
  refine WP.seq (WP.reg rfl ?_); (conv => { arg 3; simp [prep, prep1] }); (repeat (first | (refine zae ?_ ?_; (focus (simp; done)); (conv => { arg 4; simp (disch := omega) [if_pos, w32] }); (first | refine zaa ?_ | (refine zac ?_; (conv => { arg 5; simp })))) | (refine zab rfl ?_ ?_; (focus (simp; done))))); with_reducible refine zad ?_
  refine WP.seq (WP.reg rfl ?_); (conv => { arg 3; simp [prep, prep1] }); (repeat (first | (refine zae ?_ ?_; (focus (simp; done)); (conv => { arg 4; simp (disch := omega) [if_pos, w32] }); (first | refine zaa ?_ | (refine zac ?_; (conv => { arg 5; simp })))) | (refine zab rfl ?_ ?_; (focus (simp; done))))); with_reducible refine zad ?_
  refine WP.seqI (fun s => s.frame 2 = w32 c ∧ s.frame 6 = w32 ((x + y) % 4294967296) ∧ s.frame 7 = w32 ((x + y) / 4294967296)) ?_ ?_
  · refine WP.seq (WP.reg rfl ?_); (conv => { arg 3; simp [prep, prep1] }); (repeat (first | (refine zae ?_ ?_; (focus (simp; done)); (conv => { arg 4; simp (disch := omega) [if_pos, w32] }); (first | refine zaa ?_ | (refine zac ?_; (conv => { arg 5; simp })))) | (refine zab rfl ?_ ?_; (focus (simp; done))))); with_reducible refine zad ?_
    refine WP.condK' ?_; (conv => { arg 1; simp (disch := omega) [if_pos, w32] }); refine zay ⟨?_, ?_⟩
    · intro h
      have h : ((x : Int) + y) % 4294967296 < x := by simpa using h
      refine WP.reg rfl ?_; (conv => { arg 3; simp [prep, prep1] }); (repeat (first | (refine zae ?_ ?_; (focus (simp; done)); (conv => { arg 4; simp (disch := omega) [if_pos, w32] }); (first | refine zaa ?_ | (refine zac ?_; (conv => { arg 5; simp })))) | (refine zab rfl ?_ ?_; (focus (simp; done))))); with_reducible refine zad ?_
      refine ⟨by simp, ?_, ?_⟩ <;> simp [w32] <;> omega
    · intro h
      have h : ¬ ((x : Int) + y) % 4294967296 < x := by simpa using h
      refine WP.skip ?_
      refine ⟨by simp, ?_, ?_⟩ <;> simp [w32] <;> omega
  · rintro s ⟨h2, h6, h7⟩
    refine WP.seq (WP.reg rfl ?_); (conv => { arg 3; simp [prep, prep1] }); (repeat (first | (refine zae ?_ ?_; (focus (simp; done)); (conv => { arg 4; simp (disch := omega) [if_pos, w32, h2, h6, h7] }); (first | refine zaa ?_ | (refine zac ?_; (conv => { arg 5; simp })))) | (refine zab rfl ?_ ?_; (focus (simp; done))))); with_reducible refine zad ?_
    refine WP.seqI (fun s => s.frame 6 = w32 ((x + y + c) % 4294967296) ∧ s.frame 7 = w32 ((x + y + c) / 4294967296)) ?_ ?_
    · refine WP.seq (WP.reg rfl ?_); (conv => { arg 3; simp [prep, prep1] }); (repeat (first | (refine zae ?_ ?_; (focus (simp; done)); (conv => { arg 4; simp (disch := omega) [if_pos, w32, h2, h6, h7] }); (first | refine zaa ?_ | (refine zac ?_; (conv => { arg 5; simp })))) | (refine zab rfl ?_ ?_; (focus (simp; done))))); with_reducible refine zad ?_
      refine WP.condK' ?_; (conv => { arg 1; simp (disch := omega) [if_pos, w32] }); refine zay ⟨?_, ?_⟩
      · intro h
        have h : (((x : Int) + y) % 4294967296 + c) % 4294967296 < c := by simpa using h
        refine WP.reg rfl ?_; (conv => { arg 3; simp [prep, prep1] }); (repeat (first | (refine zae ?_ ?_; (focus (simp; done)); (conv => { arg 4; simp (disch := omega) [if_pos, w32, h7] }); (first | refine zaa ?_ | (refine zac ?_; (conv => { arg 5; simp })))) | (refine zab rfl ?_ ?_; (focus (simp; done))))); with_reducible refine zad ?_
        refine ⟨?_, ?_⟩ <;> simp [w32] <;> omega
      · intro h
        have h : ¬ (((x : Int) + y) % 4294967296 + c) % 4294967296 < c := by simpa using h
        refine WP.skip ?_
        refine ⟨?_, ?_⟩ <;> simp [w32, h7] <;> omega
    · rintro s ⟨h6, h7⟩
      refine WP.seq (WP.reg rfl ?_); (conv => { arg 3; simp [prep, prep1] }); (repeat (first | (refine zae ?_ ?_; (focus (simp; done)); (conv => { arg 4; simp (disch := omega) [if_pos, h6, h7] }); (first | refine zaa ?_ | (refine zac ?_; (conv => { arg 5; simp })))) | (refine zab rfl ?_ ?_; (focus (simp; done))))); with_reducible refine zad ?_
      refine WP.ret ?_
      refine ⟨[], ?_⟩
      simp (disch := omega) [if_pos, w32]
theorem zms (x y b : Nat) (hx : x < 4294967296) (hy : y < 4294967296) (hb : b < 2) :
    CallOk Tryz.prog 196 [w32 x, w32 y, w32 b] [] (.tup [w32 ((x + 4294967296 - y - b) % 4294967296), w32 (if x < y + b then 1 else 0)]) [] := by
  refine CallOk.of_wpL Tryz.func196 rfl rfl rfl (Nat.le_of_ble_eq_true rfl) ?_
  refine WP.seq (WP.reg rfl ?_); (conv => { arg 3; simp [prep, prep1] }); (repeat (first | (refine zae ?_ ?_; (focus (simp; done)); (conv => { arg 4; simp (disch := omega) [if_pos, w32] }); (first | refine zaa ?_ | (refine zac ?_; (conv => { arg 5; simp })))) | (refine zab rfl ?_ ?_; (focus (simp; done))))); with_reducible refine zad ?_
  refine WP.seq (WP.reg rfl ?_); (conv => { arg 3; simp [prep, prep1] }); (repeat (first | (refine zae ?_ ?_; (focus (simp; done)); (conv => { arg 4; simp (disch := omega) [if_pos, w32] }); (first | refine zaa ?_ | (refine zac ?_; (conv => { arg 5; simp })))) | (refine zab rfl ?_ ?_; (focus (simp; done))))); with_reducible refine zad ?_
  refine WP.seqI (fun s => s.frame 2 = w32 b ∧ s.frame 6 = .int .u32 (((x : Int) - y) % 4294967296) ∧ s.frame 7 = w32 (if x < y then 1 else 0)) ?_ ?_
  · refine WP.seq (WP.reg rfl ?_); (conv => { arg 3; simp [prep, prep1] }); (repeat (first | (refine zae ?_ ?_; (focus (simp; done)); (conv => { arg 4; simp (disch := omega) [if_pos, w32] }); (first | refine zaa ?_ | (refine zac ?_; (conv => { arg 5; simp })))) | (refine zab rfl ?_ ?_; (focus (simp; done))))); with_reducible refine zad ?_
    refine WP.condK' ?_; (conv => { arg 1; simp (disch := omega) [if_pos, w32] }); refine zay ⟨?_, ?_⟩
    · intro h
      have h : x < y := by simpa using h
      refine WP.reg rfl ?_; (conv => { arg 3; simp [prep, prep1] }); (repeat (first | (refine zae ?_ ?_; (focus (simp; done)); (conv => { arg 4; simp (disch := omega) [if_pos, w32] }); (first | refine zaa ?_ | (refine zac ?_; (conv => { arg 5; simp })))) | (refine zab rfl ?_ ?_; (focus (simp; done))))); with_reducible refine zad ?_
      refine ⟨by simp, ?_, ?_⟩ <;> simp [w32, h]
    · intro h
      have h : ¬ x < y := by simpa using h
      refine WP.skip ?_
      refine ⟨by simp, ?_, ?_⟩ <;> simp [w32, h]
  · rintro s ⟨h2, h6, h7⟩
    refine WP.seqI (fun s => s.frame 2 = w32 b ∧ s.frame 6 = .int .u32 (((x : Int) - y) % 4294967296) ∧ s.frame 7 = w32 (if x < y + b then 1 else 0)) ?_ ?_
    · refine WP.seq (WP.reg rfl ?_); (conv => { arg 3; simp [prep, prep1] }); (repeat (first | (refine zae ?_ ?_; (focus (simp; done)); (conv => { arg 4; simp (disch := omega) [if_pos, w32, h2, h6, h7] }); (first | refine zaa ?_ | (refine zac ?_; (conv => { arg 5; simp })))) | (refine zab rfl ?_ ?_; (focus (simp; done))))); with_reducible refine zad ?_
      refine WP.condK' ?_; (conv => { arg 1; simp (disch := omega) [if_pos, w32] }); refine zay ⟨?_, ?_⟩
      · intro h
        have h : ((x : Int) - y) % 4294967296 < b := by simpa using h
        refine WP.reg rfl ?_; (conv => { arg 3; simp [prep, prep1] }); (repeat (first | (refine zae ?_ ?_; (focus (simp; done)); (conv => { arg 4; simp (disch := omega) [if_pos, w32, h7] }); (first | refine zaa ?_ | (refine zac ?_; (conv => { arg 5; simp })))) | (refine zab rfl ?_ ?_; (focus (simp; done))))); with_reducible refine zad ?_
        refine ⟨by simp [h2], by simp [h6], ?_⟩
        have e : (if x < y then 1 else 0 : Nat) = 0 ∧ x < y + b := by split <;> omega
        simp [w32, e.1, e.2]
      · intro h
        have h : ¬ ((x : Int) - y) % 4294967296 < b := by simpa using h
        refine WP.skip ?_
        refine ⟨by simp [h2], by simp [h6], ?_⟩
        have e : (if x < y then 1 else 0 : Nat) = (if x < y + b then 1 else 0) := by split <;> split <;> omega
        simp [w32, h7, e]
    · rintro s ⟨h2, h6, h7⟩
      refine WP.seq (WP.reg rfl ?_); (conv => { arg 3; simp [prep, prep1] }); (repeat (first | (refine zae ?_ ?_; (focus (simp; done)); (conv => { arg 4; simp (disch := omega) [if_pos, h2, h6, h7, w32] }); (first | refine zaa ?_ | (refine zac ?_; (conv => { arg 5; simp })))) | (refine zab rfl ?_ ?_; (focus (simp; done))))); with_reducible refine zad ?_
      refine WP.ret ?_
      refine ⟨[], ?_⟩
      simp (disch := omega) [if_pos, w32]
      omega
theorem zmt (x y c d : Nat) (hx : x < 4294967296) (hy : y < 4294967296) (hc : c < 4294967296) (hd : d < 4294967296) :
    CallOk Tryz.prog 165 [w32 x, w32 y, w32 c, w32 d] [] (.tup [w32 ((x * y + c + d) / 4294967296), w32 ((x * y + c + d) % 4294967296)]) [] := by
  have hxy : x * y ≤ 18446744065119617025 := Nat.le_trans (Nat.mul_le_mul (show x ≤ 4294967295 by omega) (show y ≤ 4294967295 by omega)) (by decide)
  have e : ((x : Int) * y) = ((x * y : Nat) : Int) := by simp
  have e0 : 0 ≤ ((x : Int) * y) ∧ ((x : Int) * y) ≤ 18446744065119617025 := by rw [e]; omega
  refine CallOk.of_wpL Tryz.func165 rfl rfl rfl (Nat.le_of_ble_eq_true rfl) ?_
  refine WP.seq (WP.reg rfl ?_); (conv => { arg 3; simp [prep, prep1] }); (repeat (first | (refine zae ?_ ?_; (focus (simp; done)); (conv => { arg 4; simp (disch := omega) [if_pos, w32] }); (first | refine zaa ?_ | (refine zac ?_; (conv => { arg 5; simp })))) | (refine zab rfl ?_ ?_; (focus (simp; done))))); with_reducible refine zad ?_
  refine WP.seq (WP.reg rfl ?_); (conv => { arg 3; simp [prep, prep1] }); (repeat (first | (refine zae ?_ ?_; (focus (simp; done)); (conv => { arg 4; simp (disch := omega) [if_pos, w32] }); (first | refine zaa ?_ | (refine zac ?_; (conv => { arg 5; simp })))) | (refine zab rfl ?_ ?_; (focus (simp; done))))); with_reducible refine zad ?_
  refine WP.seq (WP.reg rfl ?_); (conv => { arg 3; simp [prep, prep1] }); (repeat (first | (refine zae ?_ ?_; (focus (simp; done)); (conv => { arg 4; simp (disch := omega) [if_pos, w32] }); (first | refine zaa ?_ | (refine zac ?_; (conv => { arg 5; simp })))) | (refine zab rfl ?_ ?_; (focus (simp; done))))); with_reducible refine zad ?_
  refine WP.ret ?_
  refine ⟨[], ?_⟩
  simp (disch := omega) [if_pos, w32]
  rw [e, Int.fdiv_eq_ediv_of_nonneg _ (by decide)]
  omega
end Go.Proofs.YthgldcflcmlgpaaGreatDoorE
end
section
/- Lists of words: trimmed, copied, held against nought. -/
set_option linter.unusedVariables false
set_option linter.unusedSimpArgs false
namespace Go.Proofs.YthgldcflcmlgpaaGreatDoorE
open Go.RowKit
set_option maxRecDepth 100000
attribute [local simp] List.getElem?_cons_zero List.getElem?_cons_succ List.getElem?_nil wrap_i64 stOf st0 effF effC evalV evalL zpb zmj pv ofConst binV binI lenV foldV mx2 mn2 unV convV extractV idxV indexV fieldAddrV fieldV partV sliceV boundsV loadL live storeE appendE srcV litE makeE IntKind.bits copyE boxE allocE flatParts flatCs flatC allParts cellsOf solid leafB fillL frzL buildV fillP placeS eqFl eqCell St.eff St.put wrs callE renP renA renC renI nid newL renB noEff endK endR resA resL resV expP expA expC expN expL expBs expB idx thenQ blockQ wantK
attribute [local simp] wrap_u32 zas
def ws (l : List Nat) : List PV := l.map w32
@[simp] theorem ws_len (l : List Nat) : (ws l).length = l.length := by simp [ws]
theorem zme (l : List Nat) (n : Nat) : (ws l).take n = ws (l.take n) := by simp [ws, List.map_take]
theorem zmy (a b : List Nat) : ws (a ++ b) = ws a ++ ws b := by simp [ws]
def wl (l : List Nat) : PV := .rd (ws l) l.length
theorem zho : ∀ (l : List Nat), ∃ n, n ≤ l.length ∧ trimL l = l.take n
  | [] => ⟨0, by simp, rfl⟩
  | x :: r => by
    obtain ⟨n, h1, h2⟩ := zho r
    simp only [trimL]
    rw [h2]
    cases hr : r.take n with
    | nil =>
      by_cases hx : x = 0
      · exact ⟨0, by simp, by simp [hx]⟩
      · exact ⟨1, by simp, by simp [hx]⟩
    | cons y t => exact ⟨n + 1, by simpa using h1, by simp [hr]⟩
theorem zcf {l : List Nat} {n : Nat} (h : n < l.length) (hz : l[n]'h = 0) : trimL (l.take (n + 1)) = trimL (l.take n) := by
  rw [List.take_succ_eq_append_getElem h, hz, trimL_snoc_zero]
theorem zcl {l : List Nat} {n : Nat} (h : n < l.length) (hz : l[n]'h ≠ 0) : trimL (l.take (n + 1)) = l.take (n + 1) := by
  rw [List.take_succ_eq_append_getElem h, trimL_snoc_pos _ hz]
theorem zcj (l : List Nat) (hl : l.length ≤ 1099511627776) : CallOk Tryz.prog 154 [wl l] [] (wl (trimL l)) [] := by
  refine CallOk.of_wpL Tryz.func154 rfl rfl rfl (Nat.le_of_ble_eq_true rfl) ?_
  refine WP.seq (WP.reg rfl ?_); (conv => { arg 3; simp [prep, prep1] }); (repeat (first | (refine zae ?_ ?_; (focus (simp; done)); (conv => { arg 4; simp (disch := omega) [if_pos] }); (first | refine zaa ?_ | (refine zac ?_; (conv => { arg 5; simp })))) | (refine zab rfl ?_ ?_; (focus (simp; done))))); with_reducible refine zad ?_
  refine WP.seq (WP.reg rfl ?_); (conv => { arg 3; simp [prep, prep1] }); (repeat (first | (refine zae ?_ ?_; (focus (simp; done)); (conv => { arg 4; simp (disch := omega) [if_pos, wl] }); (first | refine zaa ?_ | (refine zac ?_; (conv => { arg 5; simp })))) | (refine zab rfl ?_ ?_; (focus (simp; done))))); with_reducible refine zad ?_
  refine WP.seqI (fun s => s.frame 0 = wl l ∧ ∃ n : Nat, n ≤ l.length ∧ s.frame 3 = .int .i64 n ∧ trimL l = l.take n) ?_ ?_
  · refine WP.block ?_
    refine WP.loop (fun m s => s.frame 0 = wl l ∧ m ≤ l.length ∧ s.frame 3 = .int .i64 m ∧ trimL l = trimL (l.take m)) l.length ?_ ?_
    · refine ⟨by simp [wl], by omega, by simp, by simp⟩
    · rintro m ⟨f, σ, g⟩ ⟨h0, hm, h3, ht⟩
      simp only at h0 h3
      cases m with
      | zero =>
        refine WP.seq (WP.seq (WP.reg rfl ?_)); (conv => { arg 3; simp [prep, prep1] }); (repeat (first | (refine zae ?_ ?_; (focus (simp; done)); (conv => { arg 4; simp (disch := omega) [if_pos, h0, h3, wl] }); (first | refine zaa ?_ | (refine zac ?_; (conv => { arg 5; simp })))) | (refine zab rfl ?_ ?_; (focus (simp; done))))); with_reducible refine zad ?_
        refine WP.condK' ?_; (conv => { arg 1; simp (disch := omega) [if_pos] }); refine zay ⟨?_, ?_⟩
        · intro h; simp at h
        intro _
        refine WP.exit ?_
        exact ⟨by simp [h0], 0, by omega, by simp [h3], by rw [ht]; simp [trimL]⟩
      | succ m =>
        have hlt : m < l.length := by omega
        by_cases hz : l[m]'hlt = 0
        · have hz' : (ws l)[m]? = some (w32 0) := by simp [ws, hlt, hz]
          refine WP.seq (WP.seq (WP.reg rfl ?_)); (conv => { arg 3; simp [prep, prep1] }); (repeat (first | (refine zae ?_ ?_; (focus (simp; done)); (conv => { arg 4; simp (disch := omega) [if_pos, h0, h3, wl, hz', w32] }); (first | refine zaa ?_ | (refine zac ?_; (conv => { arg 5; simp })))) | (refine zab rfl ?_ ?_; (focus (simp; done))))); with_reducible refine zad ?_
          refine WP.condK' ?_; (conv => { arg 1; simp (disch := omega) [if_pos] }); refine zay ⟨?_, ?_⟩
          rotate_left
          · intro h; simp at h
          intro _
          refine WP.skip ?_
          refine WP.block (WP.reg rfl ?_); (conv => { arg 3; simp [prep, prep1] }); (repeat (first | (refine zae ?_ ?_; (focus (simp; done)); (conv => { arg 4; simp (disch := omega) [if_pos, h0, h3] }); (first | refine zaa ?_ | (refine zac ?_; (conv => { arg 5; simp })))) | (refine zab rfl ?_ ?_; (focus (simp; done))))); with_reducible refine zad ?_
          exact ⟨m, by omega, by simp [h0], by omega, by simp, by rw [ht, zcf hlt hz]⟩
        · have hz' : (ws l)[m]? = some (w32 (l[m]'hlt)) := by simp [ws, hlt]
          have hne : ((l[m]'hlt : Nat) : Int) ≠ 0 := by omega
          have hb : (((l[m]'hlt : Nat) : Int) == 0) = false := by simpa using hne
          refine WP.seq (WP.seq (WP.reg rfl ?_)); (conv => { arg 3; simp [prep, prep1] }); (repeat (first | (refine zae ?_ ?_; (focus (simp; done)); (conv => { arg 4; simp (disch := omega) [if_pos, h0, h3, wl, hz', w32, hb] }); (first | refine zaa ?_ | (refine zac ?_; (conv => { arg 5; simp })))) | (refine zab rfl ?_ ?_; (focus (simp; done))))); with_reducible refine zad ?_
          refine WP.condK' ?_; (conv => { arg 1; simp (disch := omega) [if_pos] }); refine zay ⟨?_, ?_⟩
          · intro h; simp at h
          intro _
          refine WP.exit ?_
          exact ⟨by simp [h0], m + 1, by omega, by simp [h3], by rw [ht, zcl hlt hz]⟩
  · rintro ⟨f, σ, g⟩ ⟨h0, n, hn, h3, ht⟩
    simp only at h0 h3
    refine WP.seq (WP.reg rfl ?_); (conv => { arg 3; simp [prep, prep1] }); (repeat (first | (refine zae ?_ ?_; (focus (simp; done)); (conv => { arg 4; simp (disch := omega) [if_pos, h0, h3, wl] }); (first | refine zaa ?_ | (refine zac ?_; (conv => { arg 5; simp })))) | (refine zab rfl ?_ ?_; (focus (simp; done))))); with_reducible refine zad ?_
    refine WP.ret ?_
    refine ⟨[], ?_⟩
    simp (disch := omega) [if_pos, wl, ht, zme]
theorem wf_trim {l : List Nat} (h : wf l) : wf (trimL l) := by
  obtain ⟨n, h1, h2⟩ := zho l
  rw [h2]
  exact fun x hx => h x (List.mem_of_mem_take hx)
theorem natFresh (l : List Nat) (more : Nat) (hl : l.length ≤ 1099511627776) (hm : more ≤ 1099511627776) : CallOk Tryz.prog 166 [wl l, .int .i64 more] [] (wl (l ++ List.replicate more 0)) [] := by
  refine CallOk.of_wpL Tryz.func166 rfl rfl rfl (Nat.le_of_ble_eq_true rfl) ?_
  refine WP.seq (WP.reg rfl ?_); (conv => { arg 3; simp [prep, prep1] }); (repeat (first | (refine zae ?_ ?_; (focus (simp; done)); (conv => { arg 4; simp (disch := omega) [if_pos] }); (first | refine zaa ?_ | (refine zac ?_; (conv => { arg 5; simp })))) | (refine zab rfl ?_ ?_; (focus (simp; done))))); with_reducible refine zad ?_
  have hT : ((l.length : Int) + (more : Int)).toNat = l.length + more := by omega
  refine WP.seq (WP.reg rfl ?_); (conv => { arg 3; simp [prep, prep1] }); (repeat (first | (refine zae ?_ ?_; (focus (simp; done)); (conv => { arg 4; simp (disch := omega) [if_pos, wl, hT] }); (first | refine zaa ?_ | (refine zac ?_; (conv => { arg 5; simp })))) | (refine zab rfl ?_ ?_; (focus (simp; done))))); with_reducible refine zad ?_
  refine WP.seq (WP.reg rfl ?_); (conv => { arg 3; simp [prep, prep1] }); (repeat (first | (refine zae ?_ ?_; (focus (simp; done)); (conv => { arg 4; simp (disch := omega) [if_pos, wl, hT] }); (first | refine zaa ?_ | (refine zac ?_; (conv => { arg 5; simp })))) | (refine zab rfl ?_ ?_; (focus (simp; done))))); with_reducible refine zad ?_
  refine WP.seq (WP.reg rfl ?_); (conv => { arg 3; simp [prep, prep1] }); (repeat (first | (refine zae ?_ ?_; (focus (simp; done)); (conv => { arg 4; simp (disch := omega) [if_pos, wl, hT] }); (first | refine zaa ?_ | (refine zac ?_; (conv => { arg 5; simp })))) | (refine zab rfl ?_ ?_; (focus (simp; done))))); with_reducible refine zad ?_
  refine WP.ret ?_
  refine ⟨[], ?_⟩
  simp (disch := omega) [if_pos, wl, zmy]
  rw [List.take_of_length_le (l := ws l) (by simp), List.take_of_length_le (by simp)]
  simp [ws, w32]
theorem zhz (l : List Nat) (more : Nat) (hl : l.length ≤ 1099511627776) (hm : more ≤ 1099511627776) : CallOk Tryz.prog 166 [wl l, .int .i64 more] [] (.sl ⟨0, 0, 0⟩ 0 0 (l.length + more) 1) [⟨0, true, true, ws (l ++ List.replicate more 0)⟩] := by
  refine CallOk.of_wpL Tryz.func166 rfl rfl rfl (Nat.le_of_ble_eq_true rfl) ?_
  refine WP.seq (WP.reg rfl ?_); (conv => { arg 3; simp [prep, prep1] }); (repeat (first | (refine zae ?_ ?_; (focus (simp; done)); (conv => { arg 4; simp (disch := omega) [if_pos] }); (first | refine zaa ?_ | (refine zac ?_; (conv => { arg 5; simp })))) | (refine zab rfl ?_ ?_; (focus (simp; done))))); with_reducible refine zad ?_
  have hT : ((l.length : Int) + (more : Int)).toNat = l.length + more := by omega
  refine WP.seq (WP.reg rfl ?_); (conv => { arg 3; simp [prep, prep1] }); (repeat (first | (refine zae ?_ ?_; (focus (simp; done)); (conv => { arg 4; simp (disch := omega) [if_pos, wl, hT] }); (first | refine zaa ?_ | (refine zac ?_; (conv => { arg 5; simp })))) | (refine zab rfl ?_ ?_; (focus (simp; done))))); with_reducible refine zad ?_
  refine WP.seq (WP.reg rfl ?_); (conv => { arg 3; simp [prep, prep1] }); (repeat (first | (refine zae ?_ ?_; (focus (simp; done)); (conv => { arg 4; simp (disch := omega) [if_pos, wl, hT] }); (first | refine zaa ?_ | (refine zac ?_; (conv => { arg 5; simp })))) | (refine zab rfl ?_ ?_; (focus (simp; done))))); with_reducible refine zad ?_
  refine WP.seq (WP.reg rfl ?_); (conv => { arg 3; simp [prep, prep1] }); (repeat (first | (refine zae ?_ ?_; (focus (simp; done)); (conv => { arg 4; simp (disch := omega) [if_pos, wl, hT] }); (first | refine zaa ?_ | (refine zac ?_; (conv => { arg 5; simp })))) | (refine zab rfl ?_ ?_; (focus (simp; done))))); with_reducible refine zad ?_
  refine WP.ret ?_
  refine ⟨[⟨10, 0, 0⟩], ?_⟩
  simp (disch := omega) [if_pos, wl, zmy]
  rw [List.take_of_length_le (l := ws l) (by simp)]
  simp [ws, w32]
theorem zgw : FnOk Tryz.prog 154 := ⟨_, Tryz.func154, rfl, rfl⟩
theorem zqb : FnOk Tryz.prog 166 := ⟨_, Tryz.func166, rfl, rfl⟩
theorem zcq (l : List Nat) (hl : l.length ≤ 1099511627776) : CallOk Tryz.prog 126 [wl l] [] (wl (trimL l)) [] := by
  refine CallOk.of_wpL Tryz.func126 rfl rfl rfl (Nat.le_of_ble_eq_true rfl) ?_
  refine WP.seq (WP.reg rfl ?_); (conv => { arg 3; simp [prep, prep1] }); (repeat (first | (refine zae ?_ ?_; (focus (simp; done)); (conv => { arg 4; simp (disch := omega) [if_pos] }); (first | refine zaa ?_ | (refine zac ?_; (conv => { arg 5; simp })))) | (refine zab rfl ?_ ?_; (focus (simp; done))))); with_reducible refine zad ?_
  refine WP.seq (WP.reg rfl ?_); (conv => { arg 3; simp [prep, prep1] }); (repeat (first | (refine zae ?_ ?_; (focus (simp; done)); (conv => { arg 4; simp (disch := omega) [if_pos] }); (first | refine zaa ?_ | (refine zac ?_; (conv => { arg 5; simp })))) | (refine zab rfl ?_ ?_; (focus (simp; done))))); refine zae ?_ ?_; (focus (simp; done)); (conv => { arg 4; simp (disch := omega) [if_pos] })
  refine zbu [] [] [] true (zcj l hl) zgw rfl rfl rfl (by simp (disch := omega) [if_pos, wl]) (by simp (disch := omega) [if_pos]) (by simp) (by simp) ?_; (conv => { arg 5; simp (disch := omega) [if_pos, wl] })
  (repeat (first | (refine zae ?_ ?_; (focus (simp; done)); (conv => { arg 4; simp (disch := omega) [if_pos] }); (first | refine zaa ?_ | (refine zac ?_; (conv => { arg 5; simp })))) | (refine zab rfl ?_ ?_; (focus (simp; done))))); refine zae ?_ ?_; (focus (simp; done)); (conv => { arg 4; simp (disch := omega) [if_pos] })
  refine zbu [] [] [] true (natFresh (trimL l) 0 (Nat.le_trans (zcg l) hl) (by omega)) zqb rfl rfl rfl (by simp (disch := omega) [if_pos, wl]) (by simp (disch := omega) [if_pos]) (by simp) (by simp) ?_; (conv => { arg 5; simp (disch := omega) [if_pos, wl] })
  (repeat (first | (refine zae ?_ ?_; (focus (simp; done)); (conv => { arg 4; simp (disch := omega) [if_pos] }); (first | refine zaa ?_ | (refine zac ?_; (conv => { arg 5; simp })))) | (refine zab rfl ?_ ?_; (focus (simp; done))))); with_reducible refine zad ?_
  refine WP.ret ?_
  refine ⟨[], ?_⟩
  simp (disch := omega) [if_pos, wl]
theorem zmq (l : List Nat) (hl : l.length ≤ 1099511627776) : CallOk Tryz.prog 119 [wl l] [] (.bool (decide (trimL l = []))) [] := by
  have hlen := zcg l
  refine CallOk.of_wpL Tryz.func119 rfl rfl rfl (Nat.le_of_ble_eq_true rfl) ?_
  refine WP.seq (WP.reg rfl ?_); (conv => { arg 3; simp [prep, prep1] }); (repeat (first | (refine zae ?_ ?_; (focus (simp; done)); (conv => { arg 4; simp (disch := omega) [if_pos] }); (first | refine zaa ?_ | (refine zac ?_; (conv => { arg 5; simp })))) | (refine zab rfl ?_ ?_; (focus (simp; done))))); with_reducible refine zad ?_
  refine WP.seq (WP.reg rfl ?_); (conv => { arg 3; simp [prep, prep1] }); (repeat (first | (refine zae ?_ ?_; (focus (simp; done)); (conv => { arg 4; simp (disch := omega) [if_pos] }); (first | refine zaa ?_ | (refine zac ?_; (conv => { arg 5; simp })))) | (refine zab rfl ?_ ?_; (focus (simp; done))))); refine zae ?_ ?_; (focus (simp; done)); (conv => { arg 4; simp (disch := omega) [if_pos] })
  refine zbu [] [] [] true (zcj l hl) zgw rfl rfl rfl (by simp (disch := omega) [if_pos, wl]) (by simp (disch := omega) [if_pos]) (by simp) (by simp) ?_; (conv => { arg 5; simp (disch := omega) [if_pos, wl] })
  (repeat (first | (refine zae ?_ ?_; (focus (simp; done)); (conv => { arg 4; simp (disch := omega) [if_pos, wl] }); (first | refine zaa ?_ | (refine zac ?_; (conv => { arg 5; simp })))) | (refine zab rfl ?_ ?_; (focus (simp; done))))); with_reducible refine zad ?_
  refine WP.ret ?_
  refine ⟨[], ?_⟩
  simp (disch := omega) [if_pos, wl]
  cases h : trimL l with
  | nil => simp
  | cons x r => simp; omega
theorem fnAdd : FnOk Tryz.prog 195 := ⟨_, Tryz.func195, rfl, rfl⟩
theorem natPlus (a b : List Nat) (ha : wf a) (hb : wf b) (hla : a.length ≤ 1099511627775) (hlb : b.length ≤ 1099511627775) : CallOk Tryz.prog 163 [wl a, wl b] [] (wl (nw (val a + val b))) [] := by
  refine CallOk.of_wpL Tryz.func163 rfl rfl rfl (Nat.le_of_ble_eq_true rfl) ?_
  refine WP.seq (WP.reg rfl ?_); (conv => { arg 3; simp [prep, prep1] }); (repeat (first | (refine zae ?_ ?_; (focus (simp; done)); (conv => { arg 4; simp (disch := omega) [if_pos] }); (first | refine zaa ?_ | (refine zac ?_; (conv => { arg 5; simp })))) | (refine zab rfl ?_ ?_; (focus (simp; done))))); with_reducible refine zad ?_
  refine WP.seqI (fun s => ∃ A B : List Nat, s.frame 0 = wl A ∧ s.frame 1 = wl B ∧ B.length ≤ A.length ∧ wf A ∧ wf B ∧ A.length ≤ 1099511627775 ∧ val A + val B = val a + val b) ?_ ?_
  · refine WP.seq (WP.reg rfl ?_); (conv => { arg 3; simp [prep, prep1] }); (repeat (first | (refine zae ?_ ?_; (focus (simp; done)); (conv => { arg 4; simp (disch := omega) [if_pos, wl] }); (first | refine zaa ?_ | (refine zac ?_; (conv => { arg 5; simp })))) | (refine zab rfl ?_ ?_; (focus (simp; done))))); with_reducible refine zad ?_
    refine WP.condK' ?_; (conv => { arg 1; simp (disch := omega) [if_pos] }); refine zay ⟨?_, ?_⟩
    · intro h
      have h : a.length < b.length := by simpa using h
      refine WP.reg rfl ?_; (conv => { arg 3; simp [prep, prep1] }); (repeat (first | (refine zae ?_ ?_; (focus (simp; done)); (conv => { arg 4; simp (disch := omega) [if_pos, wl] }); (first | refine zaa ?_ | (refine zac ?_; (conv => { arg 5; simp })))) | (refine zab rfl ?_ ?_; (focus (simp; done))))); with_reducible refine zad ?_
      exact ⟨b, a, by simp [wl], by simp [wl], by omega, hb, ha, hlb, by omega⟩
    · intro h
      have h : ¬ a.length < b.length := by simpa using h
      refine WP.skip ?_
      exact ⟨a, b, by simp [wl], by simp [wl], by omega, ha, hb, hla, rfl⟩
  · rintro ⟨f, σ, g⟩ ⟨A, B, h0, h1, hle, hA, hB, hlA, hv⟩
    simp only at h0 h1
    rw [← hv]
    refine WP.seq (WP.reg rfl ?_); (conv => { arg 3; simp [prep, prep1] }); (repeat (first | (refine zae ?_ ?_; (focus (simp; done)); (conv => { arg 4; simp (disch := omega) [if_pos, h0] }); (first | refine zaa ?_ | (refine zac ?_; (conv => { arg 5; simp })))) | (refine zab rfl ?_ ?_; (focus (simp; done))))); refine zae ?_ ?_; (focus (simp; done)); (conv => { arg 4; simp (disch := omega) [if_pos] })
    refine zbu [] [] [] true (zhz A 1 (by omega) (by omega)) zqb rfl rfl rfl (by simp (disch := omega) [if_pos, h0, wl]) (by simp (disch := omega) [if_pos]) (by simp) (by simp) ?_; (conv => { arg 5; simp (disch := omega) [if_pos] })
    (repeat (first | (refine zae ?_ ?_; (focus (simp; done)); (conv => { arg 4; simp (disch := omega) [if_pos] }); (first | refine zaa ?_ | (refine zac ?_; (conv => { arg 5; simp })))) | (refine zab rfl ?_ ?_; (focus (simp; done))))); with_reducible refine zad ?_
    refine WP.seq (WP.reg rfl ?_); (conv => { arg 3; simp [prep, prep1] }); (repeat (first | (refine zae ?_ ?_; (focus (simp; done)); (conv => { arg 4; simp (disch := omega) [if_pos] }); (first | refine zaa ?_ | (refine zac ?_; (conv => { arg 5; simp })))) | (refine zab rfl ?_ ?_; (focus (simp; done))))); with_reducible refine zad ?_
    refine WP.seq (WP.seq (WP.reg rfl ?_)); (conv => { arg 3; simp [prep, prep1] }); (repeat (first | (refine zae ?_ ?_; (focus (simp; done)); (conv => { arg 4; simp (disch := omega) [if_pos, h0, wl] }); (first | refine zaa ?_ | (refine zac ?_; (conv => { arg 5; simp })))) | (refine zab rfl ?_ ?_; (focus (simp; done))))); with_reducible refine zad ?_
    refine WP.block ?_
    refine WP.loop (fun m s => ∃ (i c : Nat) (pre : List Nat), m = A.length - i ∧ i ≤ A.length ∧ s.frame 0 = wl A ∧ s.frame 1 = wl B ∧ s.frame 5 = .sl ⟨17, g 17, 0⟩ 0 0 (A.length + 1) 1 ∧ s.frame 6 = w32 c ∧ s.frame 19 = .int .i64 A.length ∧ s.frame 20 = .int .i64 i ∧
      s.store ⟨17, g 17, 0⟩ = some ⟨0, true, true, ws (pre ++ A.drop i ++ [0])⟩ ∧ pre.length = i ∧ c < 4294967296 ∧ pre ++ addL (A.drop i) (B.drop i) c = addL A B 0) A.length ?_ ?_
    · refine ⟨0, 0, [], by omega, by omega, by simp [h0], by simp [h1], by simp, by simp [w32], by simp, by simp, by simp, rfl, by omega, by simp⟩
    · rintro m ⟨f, σ, g'⟩ ⟨i, c, pre, rfl, hi, h0, h1, h5, h6, h19, h20, hst, hpre, hc, hT⟩
      simp only at h0 h1 h5 h6 h19 h20 hst
      by_cases hlt : i < A.length
      · have hAi : (ws A)[i]? = some (w32 (A[i]'hlt)) := by simp [ws, hlt]
        have hdA : A.drop i = A[i]'hlt :: A.drop (i + 1) := List.drop_eq_getElem_cons hlt
        refine WP.seq (WP.reg rfl ?_); (conv => { arg 3; simp [prep, prep1] }); (repeat (first | (refine zae ?_ ?_; (focus (simp; done)); (conv => { arg 4; simp (disch := omega) [if_pos, h19, h20, hlt] }); (first | refine zaa ?_ | (refine zac ?_; (conv => { arg 5; simp })))) | (refine zab rfl ?_ ?_; (focus (simp; done))))); with_reducible refine zad ?_
        refine WP.seq (WP.condK' ?_); (conv => { arg 1; simp (disch := omega) [if_pos] }); refine zay ⟨?_, ?_⟩
        rotate_left
        · intro h; simp at h
        intro _
        refine WP.skip ?_
        refine WP.seq (WP.block ?_)
        refine WP.seq (WP.reg rfl ?_); (conv => { arg 3; simp [prep, prep1] }); (repeat (first | (refine zae ?_ ?_; (focus (simp; done)); (conv => { arg 4; simp (disch := omega) [if_pos, h20] }); (first | refine zaa ?_ | (refine zac ?_; (conv => { arg 5; simp })))) | (refine zab rfl ?_ ?_; (focus (simp; done))))); with_reducible refine zad ?_
        refine WP.seq (WP.reg rfl ?_); (conv => { arg 3; simp [prep, prep1] }); (repeat (first | (refine zae ?_ ?_; (focus (simp; done)); (conv => { arg 4; simp (disch := omega) [if_pos] }); (first | refine zaa ?_ | (refine zac ?_; (conv => { arg 5; simp })))) | (refine zab rfl ?_ ?_; (focus (simp; done))))); with_reducible refine zad ?_
        refine WP.seqI (fun s => s.frame 0 = wl A ∧ s.frame 1 = wl B ∧ s.frame 5 = .sl ⟨17, g 17, 0⟩ 0 0 (A.length + 1) 1 ∧ s.frame 6 = w32 c ∧ s.frame 7 = .int .i64 i ∧ s.frame 8 = w32 ((B.drop i).headD 0) ∧ s.frame 19 = .int .i64 A.length ∧ s.frame 20 = .int .i64 i ∧
          s.store ⟨17, g 17, 0⟩ = some ⟨0, true, true, ws (pre ++ A.drop i ++ [0])⟩) ?_ ?_
        · by_cases hb : i < B.length
          · have hBi : (ws B)[i]? = some (w32 (B[i]'hb)) := by simp [ws, hb]
            have hdB : B.drop i = B[i]'hb :: B.drop (i + 1) := List.drop_eq_getElem_cons hb
            refine WP.seq (WP.reg rfl ?_); (conv => { arg 3; simp [prep, prep1] }); (repeat (first | (refine zae ?_ ?_; (focus (simp; done)); (conv => { arg 4; simp (disch := omega) [if_pos, h1, wl, hb] }); (first | refine zaa ?_ | (refine zac ?_; (conv => { arg 5; simp })))) | (refine zab rfl ?_ ?_; (focus (simp; done))))); with_reducible refine zad ?_
            refine WP.condK' ?_; (conv => { arg 1; simp (disch := omega) [if_pos] }); refine zay ⟨?_, ?_⟩
            rotate_left
            · intro h; simp at h
            intro _
            refine WP.reg rfl ?_; (conv => { arg 3; simp [prep, prep1] }); (repeat (first | (refine zae ?_ ?_; (focus (simp; done)); (conv => { arg 4; simp (disch := omega) [if_pos, h1, wl, hBi] }); (first | refine zaa ?_ | (refine zac ?_; (conv => { arg 5; simp })))) | (refine zab rfl ?_ ?_; (focus (simp; done))))); with_reducible refine zad ?_
            refine ⟨by simp [h0], by simp [h1], by simp [h5], by simp [h6], by simp, by simp [hb], by simp [h19], by simp [h20], by simp [hst]⟩
          · have hdB : B.drop i = [] := List.drop_of_length_le (by omega)
            refine WP.seq (WP.reg rfl ?_); (conv => { arg 3; simp [prep, prep1] }); (repeat (first | (refine zae ?_ ?_; (focus (simp; done)); (conv => { arg 4; simp (disch := omega) [if_pos, h1, wl, hb] }); (first | refine zaa ?_ | (refine zac ?_; (conv => { arg 5; simp })))) | (refine zab rfl ?_ ?_; (focus (simp; done))))); with_reducible refine zad ?_
            refine WP.condK' ?_; (conv => { arg 1; simp (disch := omega) [if_pos] }); refine zay ⟨?_, ?_⟩
            · intro h; simp at h
            intro _
            refine WP.skip ?_
            refine ⟨by simp [h0], by simp [h1], by simp [h5], by simp [h6], by simp, by rw [hdB]; simp [w32], by simp [h19], by simp [h20], by simp [hst]⟩
        · clear h0 h1 h5 h6 h19 h20 hst
          rintro ⟨f2, σ2, g2⟩ ⟨h0, h1, h5, h6, h7, h8, h19, h20, hst⟩
          simp only at h0 h1 h5 h6 h7 h8 h19 h20 hst
          have hx : A[i]'hlt < 4294967296 := hA _ (List.getElem_mem hlt)
          have hy : (B.drop i).headD 0 < 4294967296 := by
            cases hh : B.drop i with
            | nil => simp
            | cons y s => exact hB y (List.mem_of_mem_drop (by rw [hh]; simp))
          have hadd : addL (A.drop i) (B.drop i) c = (A[i]'hlt + (B.drop i).headD 0 + c) % 4294967296 :: addL (A.drop (i + 1)) (B.drop (i + 1)) ((A[i]'hlt + (B.drop i).headD 0 + c) / 4294967296) := by
            rw [hdA]; simp only [addL, List.tail_drop]
          generalize (B.drop i).headD 0 = y at *
          have hcl : (ws (pre ++ A.drop i ++ [0])).take i ++ w32 ((A[i]'hlt + y + c) % 4294967296) :: (ws (pre ++ A.drop i ++ [0])).drop (i + 1) = ws (pre ++ [(A[i]'hlt + y + c) % 4294967296] ++ A.drop (i + 1) ++ [0]) := by
            rw [hdA]
            generalize A.drop (i + 1) = D
            simp [ws, ← hpre, List.drop_append]
          have hcall := zkm (A[i]'hlt) y c hx hy hc
          have hc' : (A[i]'hlt + y + c) / 4294967296 < 4294967296 := by omega
          generalize (A[i]'hlt + y + c) % 4294967296 = v at *
          generalize (A[i]'hlt + y + c) / 4294967296 = c' at *
          refine WP.reg rfl ?_; (conv => { arg 3; simp [prep, prep1] }); (repeat (first | (refine zae ?_ ?_; (focus (simp; done)); (conv => { arg 4; simp (disch := omega) [if_pos, h0, h5, h6, h7, h8, wl, hAi] }); (first | refine zaa ?_ | (refine zac ?_; (conv => { arg 5; simp })))) | (refine zab rfl ?_ ?_; (focus (simp; done))))); refine zae ?_ ?_; (focus (simp; done)); (conv => { arg 4; simp (disch := omega) [if_pos] })
          refine zbu [] [] [] true hcall fnAdd rfl rfl rfl (by simp (disch := omega) [if_pos, w32]) (by simp (disch := omega) [if_pos]) (by simp) (by simp) ?_; (conv => { arg 5; simp (disch := omega) [if_pos] })
          (repeat (first | (refine zae ?_ ?_; (focus (simp; done)); (conv => { arg 4; simp (disch := omega) [if_pos, h5, hst, hpre, w32] }); (first | refine zaa ?_ | (refine zac ?_; (conv => { arg 5; simp })))) | (refine zab rfl ?_ ?_; (focus (simp; done))))); with_reducible refine zad ?_
          refine WP.reg rfl ?_; (conv => { arg 3; simp [prep, prep1] }); (repeat (first | (refine zae ?_ ?_; (focus (simp; done)); (conv => { arg 4; simp (disch := omega) [if_pos, h20] }); (first | refine zaa ?_ | (refine zac ?_; (conv => { arg 5; simp })))) | (refine zab rfl ?_ ?_; (focus (simp; done))))); with_reducible refine zad ?_
          simp only [w32] at hcl
          refine ⟨A.length - (i + 1), by omega, i + 1, c', pre ++ [v], rfl, by omega, by simp [h0], by simp [h1], by simp [h5], by simp [w32], by simp [h19], by simp [h20], by simp only [List.append_assoc, List.cons_append, List.nil_append] at hcl ⊢; simp [hcl], by simp [hpre], hc', by rw [← hT, hadd]; simp⟩
      · have hiA : i = A.length := by omega
        subst hiA
        refine WP.seq (WP.reg rfl ?_); (conv => { arg 3; simp [prep, prep1] }); (repeat (first | (refine zae ?_ ?_; (focus (simp; done)); (conv => { arg 4; simp (disch := omega) [if_pos, h19, h20] }); (first | refine zaa ?_ | (refine zac ?_; (conv => { arg 5; simp })))) | (refine zab rfl ?_ ?_; (focus (simp; done))))); with_reducible refine zad ?_
        refine WP.seq (WP.condK' ?_); (conv => { arg 1; simp (disch := omega) [if_pos] }); refine zay ⟨?_, ?_⟩
        · intro h; simp at h
        intro _
        refine WP.exit ?_
        have hd : A.drop A.length = [] := List.drop_of_length_le (Nat.le_refl _)
        rw [hd, List.append_nil] at hst
        refine WP.seq (WP.reg rfl ?_); (conv => { arg 3; simp [prep, prep1] }); (repeat (first | (refine zae ?_ ?_; (focus (simp; done)); (conv => { arg 4; simp (disch := omega) [if_pos, h0, h5, h6, hst, wl, w32, hpre] }); (first | refine zaa ?_ | (refine zac ?_; (conv => { arg 5; simp })))) | (refine zab rfl ?_ ?_; (focus (simp; done))))); with_reducible refine zad ?_
        have hlen : (addL A B 0).length = A.length + 1 := by rw [← hT, hd]; simp [addL, hpre]
        have hcells : (ws (pre ++ [0])).take A.length ++ w32 c :: (ws (pre ++ [0])).drop (A.length + 1) = ws (addL A B 0) := by
          rw [← hT, hd]
          simp [addL, ws, ← hpre]
        have hwf : wf (addL A B 0) := zou A B 0 hA hB (by omega)
        have hval : val (addL A B 0) = val A + val B := by rw [zjt A B 0 hle]; omega
        simp only [w32] at hcells
        rw [hcells]
        have htk : (ws (addL A B 0)).take (A.length + 1) = ws (addL A B 0) := List.take_of_length_le (by rw [ws_len, hlen]; exact Nat.le_refl _)
        refine WP.seq (WP.reg rfl ?_); (conv => { arg 3; simp [prep, prep1] }); (repeat (first | (refine zae ?_ ?_; (focus (simp; done)); (conv => { arg 4; simp (disch := omega) [if_pos, h5] }); (first | refine zaa ?_ | (refine zac ?_; (conv => { arg 5; simp })))) | (refine zab rfl ?_ ?_; (focus (simp; done))))); refine zae ?_ ?_; (focus (simp; done)); (conv => { arg 4; simp (disch := omega) [if_pos] })
        refine zbu [] [⟨17, g 17, 0⟩] [] true (zcj (addL A B 0) (by rw [hlen]; omega)) zgw rfl rfl rfl (by simp (disch := omega) [if_pos, wl, hlen, htk]) (by simp (disch := omega) [if_pos]) (by simp) (by simp) ?_; (conv => { arg 5; simp (disch := omega) [if_pos, wl] })
        (repeat (first | (refine zae ?_ ?_; (focus (simp; done)); (conv => { arg 4; simp (disch := omega) [if_pos] }); (first | refine zaa ?_ | (refine zac ?_; (conv => { arg 5; simp })))) | (refine zab rfl ?_ ?_; (focus (simp; done))))); with_reducible refine zad ?_
        refine WP.ret ?_
        refine ⟨[], ?_⟩
        rw [← hval, ← zba hwf]
        simp (disch := omega) [if_pos, wl]
theorem zoo (n : Nat) (hn : n < 18446744073709551616) : CallOk Tryz.prog 106 [.int .u64 n] [] (wl (nw n)) [] := by
  have hwf : wf [n % 4294967296, n / 4294967296] := by
    intro x hx; simp at hx; omega
  have hval : val [n % 4294967296, n / 4294967296] = n := by simp only [val]; omega
  have hfd : ((n : Int).fdiv 4294967296) % 4294967296 = ((n / 4294967296 : Nat) : Int) := by
    rw [Int.fdiv_eq_ediv_of_nonneg _ (by decide)]; omega
  refine CallOk.of_wpL Tryz.func106 rfl rfl rfl (Nat.le_of_ble_eq_true rfl) ?_
  refine WP.seq (WP.reg rfl ?_); (conv => { arg 3; simp [prep, prep1] }); (repeat (first | (refine zae ?_ ?_; (focus (simp; done)); (conv => { arg 4; simp (disch := omega) [if_pos] }); (first | refine zaa ?_ | (refine zac ?_; (conv => { arg 5; simp })))) | (refine zab rfl ?_ ?_; (focus (simp; done))))); with_reducible refine zad ?_
  refine WP.seq (WP.reg rfl ?_); (conv => { arg 3; simp [prep, prep1] }); (repeat (first | (refine zae ?_ ?_; (focus (simp; done)); (conv => { arg 4; simp (disch := omega) [if_pos, hfd] }); (first | refine zaa ?_ | (refine zac ?_; (conv => { arg 5; simp })))) | (refine zab rfl ?_ ?_; (focus (simp; done))))); refine zae ?_ ?_; (focus (simp; done)); (conv => { arg 4; simp (disch := omega) [if_pos, hfd] })
  refine zbu [] [⟨8, 0, 0⟩] [] true (zcj [n % 4294967296, n / 4294967296] (by simp)) zgw rfl rfl rfl (by simp (disch := omega) [if_pos, wl, ws, w32]) (by simp (disch := omega) [if_pos]) (by simp) (by simp) ?_; (conv => { arg 5; simp (disch := omega) [if_pos, wl] })
  (repeat (first | (refine zae ?_ ?_; (focus (simp; done)); (conv => { arg 4; simp (disch := omega) [if_pos] }); (first | refine zaa ?_ | (refine zac ?_; (conv => { arg 5; simp })))) | (refine zab rfl ?_ ?_; (focus (simp; done))))); with_reducible refine zad ?_
  refine WP.ret ?_
  refine ⟨[], ?_⟩
  rw [← hval, ← zba hwf, hval]
  simp (disch := omega) [if_pos, wl]
theorem zrf : FnOk Tryz.prog 163 := ⟨_, Tryz.func163, rfl, rfl⟩
def sumV (ll : List (List Nat)) : Nat := (ll.map val).foldl (· + ·) 0
theorem zrc (n : Nat) : ∀ k, n < 4294967296 ^ k → (nw n).length ≤ k := by
  induction n using Nat.strongRecOn with
  | _ n ih =>
    intro k hk
    by_cases h : n = 0
    · subst h; rw [zaw]; simp
    · cases k with
      | zero => simp at hk; omega
      | succ k =>
        rw [zde h, List.length_cons]
        have : n / 4294967296 < 4294967296 ^ k := Nat.div_lt_of_lt_mul (by rw [Nat.pow_succ, Nat.mul_comm] at hk; exact hk)
        have := ih _ (by omega) k this
        omega
theorem zax : ∀ {l : List Nat}, wf l → val l < 4294967296 ^ l.length
  | [], _ => by simp [val]
  | x :: r, h => by
    obtain ⟨h1, h2⟩ := wf_cons.1 h
    have := zax h2
    simp only [val, List.length_cons, Nat.pow_succ]
    omega
theorem sumV_snoc (A : List (List Nat)) (x : List Nat) : sumV (A ++ [x]) = sumV A + val x := by simp [sumV]
theorem foldl_add_ge (l : List Nat) : ∀ n, n ≤ l.foldl (· + ·) n := by
  induction l with
  | nil => intro n; simp
  | cons x r ih => intro n; have := ih (n + x); simp only [List.foldl_cons]; omega
theorem sumV_take_le (ll : List (List Nat)) (i : Nat) : sumV (ll.take i) ≤ sumV ll := by
  unfold sumV
  conv => rhs; rw [← List.take_append_drop i ll, List.map_append, List.foldl_append]
  exact foldl_add_ge _ _
theorem natAdd (ll : List (List Nat)) (hwf : ∀ l ∈ ll, wf l) (hlen : ∀ l ∈ ll, l.length ≤ 1099511627775) (k : Nat) (hk : k ≤ 1099511627775) (hs : sumV ll < 4294967296 ^ k) (hc : ll.length ≤ 1099511627775) :
    CallOk Tryz.prog 123 [.rd (ll.map wl) ll.length] [] (wl (nw (sumV ll))) [] := by
  refine CallOk.of_wpL Tryz.func123 rfl rfl rfl (Nat.le_of_ble_eq_true rfl) ?_
  refine WP.seq (WP.reg rfl ?_); (conv => { arg 3; simp [prep, prep1] }); (repeat (first | (refine zae ?_ ?_; (focus (simp; done)); (conv => { arg 4; simp (disch := omega) [if_pos] }); (first | refine zaa ?_ | (refine zac ?_; (conv => { arg 5; simp })))) | (refine zab rfl ?_ ?_; (focus (simp; done))))); with_reducible refine zad ?_
  refine WP.seq (WP.reg rfl ?_); (conv => { arg 3; simp [prep, prep1] }); (repeat (first | (refine zae ?_ ?_; (focus (simp; done)); (conv => { arg 4; simp (disch := omega) [if_pos] }); (first | refine zaa ?_ | (refine zac ?_; (conv => { arg 5; simp })))) | (refine zab rfl ?_ ?_; (focus (simp; done))))); with_reducible refine zad ?_
  refine WP.seq (WP.seq (WP.reg rfl ?_)); (conv => { arg 3; simp [prep, prep1] }); (repeat (first | (refine zae ?_ ?_; (focus (simp; done)); (conv => { arg 4; simp (disch := omega) [if_pos] }); (first | refine zaa ?_ | (refine zac ?_; (conv => { arg 5; simp })))) | (refine zab rfl ?_ ?_; (focus (simp; done))))); with_reducible refine zad ?_
  refine WP.block ?_
  refine WP.loop (fun m s => ∃ i : Nat, m = ll.length - i ∧ i ≤ ll.length ∧ s.frame 6 = .rd (ll.map wl) ll.length ∧ s.frame 7 = .int .i64 ll.length ∧ s.frame 8 = .int .i64 i ∧
    ((s.frame 3 = .nilS ∧ sumV (ll.take i) = 0) ∨ s.frame 3 = wl (nw (sumV (ll.take i))))) ll.length ?_ ?_
  · exact ⟨0, by omega, by omega, by simp, by simp, by simp, .inl ⟨by simp, by simp [sumV]⟩⟩
  · rintro m ⟨f, σ, g⟩ ⟨i, rfl, hi, h6, h7, h8, h3⟩
    simp only at h6 h7 h8 h3
    by_cases hlt : i < ll.length
    · have hel : (ll.map wl)[i]? = some (wl (ll[i]'hlt)) := by simp [hlt]
      have hmem := List.getElem_mem hlt
      have htk : sumV (ll.take (i + 1)) = sumV (ll.take i) + val (ll[i]'hlt) := by rw [List.take_succ_eq_append_getElem hlt, sumV_snoc]
      have hle := zrc (sumV (ll.take i)) k (Nat.lt_of_le_of_lt (sumV_take_le ll i) hs)
      have hxw := hwf _ hmem
      have hxl := hlen _ hmem
      generalize ll[i]'hlt = x at *
      refine WP.seq (WP.reg rfl ?_); (conv => { arg 3; simp [prep, prep1] }); (repeat (first | (refine zae ?_ ?_; (focus (simp; done)); (conv => { arg 4; simp (disch := omega) [if_pos, h7, h8, hlt] }); (first | refine zaa ?_ | (refine zac ?_; (conv => { arg 5; simp })))) | (refine zab rfl ?_ ?_; (focus (simp; done))))); with_reducible refine zad ?_
      refine WP.seq (WP.condK' ?_); (conv => { arg 1; simp (disch := omega) [if_pos] }); refine zay ⟨?_, ?_⟩
      rotate_left
      · intro h; simp at h
      intro _
      refine WP.skip ?_
      have htl := zcg x
      have hplus := natPlus (nw (sumV (ll.take i))) (trimL x) (zaq _) (wf_trim hxw) (by omega) (by omega)
      rw [zam, val_trim hxw, ← htk] at hplus
      rcases h3 with ⟨h3, hz⟩ | h3
      · rw [hz, zaw] at hplus
        refine WP.seq (WP.block (WP.seq (WP.reg rfl ?_))); (conv => { arg 3; simp [prep, prep1] }); (repeat (first | (refine zae ?_ ?_; (focus (simp; done)); (conv => { arg 4; simp (disch := omega) [if_pos, h6, h8, hlt, hel] }); (first | refine zaa ?_ | (refine zac ?_; (conv => { arg 5; simp })))) | (refine zab rfl ?_ ?_; (focus (simp; done))))); with_reducible refine zad ?_
        refine WP.reg rfl ?_; (conv => { arg 3; simp [prep, prep1] }); (repeat (first | (refine zae ?_ ?_; (focus (simp; done)); (conv => { arg 4; simp (disch := omega) [if_pos, h3] }); (first | refine zaa ?_ | (refine zac ?_; (conv => { arg 5; simp })))) | (refine zab rfl ?_ ?_; (focus (simp; done))))); refine zae ?_ ?_; (focus (simp; done)); (conv => { arg 4; simp (disch := omega) [if_pos, h3] })
        refine zbu [] [] [] true (zcj x (by omega)) zgw rfl rfl rfl (by simp (disch := omega) [if_pos, wl]) (by simp (disch := omega) [if_pos]) (by simp) (by simp) ?_; (conv => { arg 5; simp (disch := omega) [if_pos, wl] })
        (repeat (first | (refine zae ?_ ?_; (focus (simp; done)); (conv => { arg 4; simp (disch := omega) [if_pos, h3] }); (first | refine zaa ?_ | (refine zac ?_; (conv => { arg 5; simp })))) | (refine zab rfl ?_ ?_; (focus (simp; done))))); refine zae ?_ ?_; (focus (simp; done)); (conv => { arg 4; simp (disch := omega) [if_pos, h3] })
        refine zbu [] [] [] true hplus zrf rfl rfl rfl (by simp (disch := omega) [if_pos, wl, ws]) (by simp (disch := omega) [if_pos]) (by simp) (by simp) ?_; (conv => { arg 5; simp (disch := omega) [if_pos, wl] })
        (repeat (first | (refine zae ?_ ?_; (focus (simp; done)); (conv => { arg 4; simp (disch := omega) [if_pos] }); (first | refine zaa ?_ | (refine zac ?_; (conv => { arg 5; simp })))) | (refine zab rfl ?_ ?_; (focus (simp; done))))); with_reducible refine zad ?_
        refine WP.reg rfl ?_; (conv => { arg 3; simp [prep, prep1] }); (repeat (first | (refine zae ?_ ?_; (focus (simp; done)); (conv => { arg 4; simp (disch := omega) [if_pos, h8] }); (first | refine zaa ?_ | (refine zac ?_; (conv => { arg 5; simp })))) | (refine zab rfl ?_ ?_; (focus (simp; done))))); with_reducible refine zad ?_
        exact ⟨ll.length - (i + 1), by omega, i + 1, rfl, by omega, by simp [h6], by simp [h7], by simp, .inr (by simp [wl])⟩
      · refine WP.seq (WP.block (WP.seq (WP.reg rfl ?_))); (conv => { arg 3; simp [prep, prep1] }); (repeat (first | (refine zae ?_ ?_; (focus (simp; done)); (conv => { arg 4; simp (disch := omega) [if_pos, h6, h8, hlt, hel] }); (first | refine zaa ?_ | (refine zac ?_; (conv => { arg 5; simp })))) | (refine zab rfl ?_ ?_; (focus (simp; done))))); with_reducible refine zad ?_
        refine WP.reg rfl ?_; (conv => { arg 3; simp [prep, prep1] }); (repeat (first | (refine zae ?_ ?_; (focus (simp; done)); (conv => { arg 4; simp (disch := omega) [if_pos, h3] }); (first | refine zaa ?_ | (refine zac ?_; (conv => { arg 5; simp })))) | (refine zab rfl ?_ ?_; (focus (simp; done))))); refine zae ?_ ?_; (focus (simp; done)); (conv => { arg 4; simp (disch := omega) [if_pos, h3] })
        refine zbu [] [] [] true (zcj x (by omega)) zgw rfl rfl rfl (by simp (disch := omega) [if_pos, wl]) (by simp (disch := omega) [if_pos]) (by simp) (by simp) ?_; (conv => { arg 5; simp (disch := omega) [if_pos, wl] })
        (repeat (first | (refine zae ?_ ?_; (focus (simp; done)); (conv => { arg 4; simp (disch := omega) [if_pos, h3] }); (first | refine zaa ?_ | (refine zac ?_; (conv => { arg 5; simp })))) | (refine zab rfl ?_ ?_; (focus (simp; done))))); refine zae ?_ ?_; (focus (simp; done)); (conv => { arg 4; simp (disch := omega) [if_pos, h3] })
        refine zbu [] [] [] true hplus zrf rfl rfl rfl (by simp (disch := omega) [if_pos, wl]) (by simp (disch := omega) [if_pos]) (by simp) (by simp) ?_; (conv => { arg 5; simp (disch := omega) [if_pos, wl] })
        (repeat (first | (refine zae ?_ ?_; (focus (simp; done)); (conv => { arg 4; simp (disch := omega) [if_pos] }); (first | refine zaa ?_ | (refine zac ?_; (conv => { arg 5; simp })))) | (refine zab rfl ?_ ?_; (focus (simp; done))))); with_reducible refine zad ?_
        refine WP.reg rfl ?_; (conv => { arg 3; simp [prep, prep1] }); (repeat (first | (refine zae ?_ ?_; (focus (simp; done)); (conv => { arg 4; simp (disch := omega) [if_pos, h8] }); (first | refine zaa ?_ | (refine zac ?_; (conv => { arg 5; simp })))) | (refine zab rfl ?_ ?_; (focus (simp; done))))); with_reducible refine zad ?_
        exact ⟨ll.length - (i + 1), by omega, i + 1, rfl, by omega, by simp [h6], by simp [h7], by simp, .inr (by simp [wl])⟩
    · have hil : i = ll.length := by omega
      subst hil
      rw [List.take_length] at h3
      refine WP.seq (WP.reg rfl ?_); (conv => { arg 3; simp [prep, prep1] }); (repeat (first | (refine zae ?_ ?_; (focus (simp; done)); (conv => { arg 4; simp (disch := omega) [if_pos, h7, h8] }); (first | refine zaa ?_ | (refine zac ?_; (conv => { arg 5; simp })))) | (refine zab rfl ?_ ?_; (focus (simp; done))))); with_reducible refine zad ?_
      refine WP.seq (WP.condK' ?_); (conv => { arg 1; simp (disch := omega) [if_pos] }); refine zay ⟨?_, ?_⟩
      · intro h; simp at h
      intro _
      refine WP.exit ?_
      rcases h3 with ⟨h3, hz⟩ | h3
      · refine WP.seq (WP.reg rfl ?_); (conv => { arg 3; simp [prep, prep1] }); (repeat (first | (refine zae ?_ ?_; (focus (simp; done)); (conv => { arg 4; simp (disch := omega) [if_pos, h3] }); (first | refine zaa ?_ | (refine zac ?_; (conv => { arg 5; simp })))) | (refine zab rfl ?_ ?_; (focus (simp; done))))); with_reducible refine zad ?_
        refine WP.ret ?_
        refine ⟨[], ?_⟩
        rw [hz, zaw]
        simp (disch := omega) [if_pos, wl, ws]
      · refine WP.seq (WP.reg rfl ?_); (conv => { arg 3; simp [prep, prep1] }); (repeat (first | (refine zae ?_ ?_; (focus (simp; done)); (conv => { arg 4; simp (disch := omega) [if_pos, h3] }); (first | refine zaa ?_ | (refine zac ?_; (conv => { arg 5; simp })))) | (refine zab rfl ?_ ?_; (focus (simp; done))))); with_reducible refine zad ?_
        refine WP.ret ?_
        refine ⟨[], ?_⟩
        simp (disch := omega) [if_pos, wl]
def cmpI (a b : Nat) : Int := if a < b then -1 else if b < a then 1 else 0
theorem zrn {n : Nat} (h : n ≠ 0) : 4294967296 ^ ((nw n).length - 1) ≤ n := by
  induction n using Nat.strongRecOn with
  | _ n ih =>
    rw [zde h, List.length_cons, Nat.add_sub_cancel]
    by_cases hd : n / 4294967296 = 0
    · rw [hd, zaw]; simp; omega
    · have := ih _ (by omega) hd
      cases hl : (nw (n / 4294967296)).length with
      | zero =>
        rw [zde hd] at hl; simp at hl
      | succ k =>
        rw [hl] at this
        simp only [Nat.add_sub_cancel] at this
        rw [Nat.pow_succ]
        omega
theorem zfu {a b : Nat} (h : (nw a).length < (nw b).length) : a < b := by
  have hb : b ≠ 0 := by
    intro e; subst e; rw [zaw] at h; simp at h
  have h1 := zrn hb
  have h2 := zax (zaq a)
  rw [zam] at h2
  exact Nat.lt_of_lt_of_le h2 (Nat.le_trans (Nat.pow_le_pow_right (by decide) (by omega)) h1)
theorem zlb (l : List Nat) (i : Nat) (h : i < l.length) : val l = val (l.take i) + 4294967296 ^ i * (l[i]'h + 4294967296 * val (l.drop (i + 1))) := by
  conv => lhs; rw [← List.take_append_drop i l, zdn, List.length_take, Nat.min_eq_left (by omega), List.drop_eq_getElem_cons h]
  rfl
theorem zqg {A B : List Nat} (hA : wf A) (hB : wf B) {i : Nat} (ha : i < A.length) (hb : i < B.length) (hd : A.drop (i + 1) = B.drop (i + 1)) (hlt : A[i]'ha < B[i]'hb) : val A < val B := by
  have e1 := zlb A i ha
  have e2 := zlb B i hb
  have h1 : val (A.take i) < 4294967296 ^ i := by
    have := zax (l := A.take i) (fun x hx => hA x (List.mem_of_mem_take hx))
    rwa [List.length_take, Nat.min_eq_left (by omega)] at this
  rw [e1, e2, hd]
  generalize val (B.drop (i + 1)) = r
  have h2 : 4294967296 ^ i * (A[i]'ha + 4294967296 * r) + 4294967296 ^ i ≤ 4294967296 ^ i * (B[i]'hb + 4294967296 * r) := by
    rw [← Nat.mul_succ]
    exact Nat.mul_le_mul_left _ (by omega)
  omega
theorem znu (a b : List Nat) (ha : wf a) (hb : wf b) (hla : a.length ≤ 1099511627776) (hlb : b.length ≤ 1099511627776) : CallOk Tryz.prog 140 [wl a, wl b] [] (.int .i64 (cmpI (val a) (val b))) [] := by
  have hla' := zcg a
  have hlb' := zcg b
  have c1 := zcj a hla
  have c2 := zcj b hlb
  rw [zba ha] at c1 hla'
  rw [zba hb] at c2 hlb'
  have hltA := @zfu (val a) (val b)
  have hltB := @zfu (val b) (val a)
  have wA := zaq (val a)
  have wB := zaq (val b)
  have vA := zam (val a)
  have vB := zam (val b)
  generalize nw (val a) = A at *
  generalize nw (val b) = B at *
  refine CallOk.of_wpL Tryz.func140 rfl rfl rfl (Nat.le_of_ble_eq_true rfl) ?_
  refine WP.seq (WP.reg rfl ?_); (conv => { arg 3; simp [prep, prep1] }); (repeat (first | (refine zae ?_ ?_; (focus (simp; done)); (conv => { arg 4; simp (disch := omega) [if_pos] }); (first | refine zaa ?_ | (refine zac ?_; (conv => { arg 5; simp })))) | (refine zab rfl ?_ ?_; (focus (simp; done))))); with_reducible refine zad ?_
  refine WP.seq (WP.reg rfl ?_); (conv => { arg 3; simp [prep, prep1] }); (repeat (first | (refine zae ?_ ?_; (focus (simp; done)); (conv => { arg 4; simp (disch := omega) [if_pos] }); (first | refine zaa ?_ | (refine zac ?_; (conv => { arg 5; simp })))) | (refine zab rfl ?_ ?_; (focus (simp; done))))); refine zae ?_ ?_; (focus (simp; done)); (conv => { arg 4; simp (disch := omega) [if_pos] })
  refine zbu [] [] [] true c1 zgw rfl rfl rfl (by simp (disch := omega) [if_pos, wl]) (by simp (disch := omega) [if_pos]) (by simp) (by simp) ?_; (conv => { arg 5; simp (disch := omega) [if_pos, wl] })
  (repeat (first | (refine zae ?_ ?_; (focus (simp; done)); (conv => { arg 4; simp (disch := omega) [if_pos] }); (first | refine zaa ?_ | (refine zac ?_; (conv => { arg 5; simp })))) | (refine zab rfl ?_ ?_; (focus (simp; done))))); refine zae ?_ ?_; (focus (simp; done)); (conv => { arg 4; simp (disch := omega) [if_pos] })
  refine zbu [] [] [] true c2 zgw rfl rfl rfl (by simp (disch := omega) [if_pos, wl]) (by simp (disch := omega) [if_pos]) (by simp) (by simp) ?_; (conv => { arg 5; simp (disch := omega) [if_pos, wl] })
  (repeat (first | (refine zae ?_ ?_; (focus (simp; done)); (conv => { arg 4; simp (disch := omega) [if_pos] }); (first | refine zaa ?_ | (refine zac ?_; (conv => { arg 5; simp })))) | (refine zab rfl ?_ ?_; (focus (simp; done))))); with_reducible refine zad ?_
  refine WP.seq (WP.block ?_)
  refine WP.seq (WP.reg rfl ?_); (conv => { arg 3; simp [prep, prep1] }); (repeat (first | (refine zae ?_ ?_; (focus (simp; done)); (conv => { arg 4; simp (disch := omega) [if_pos] }); (first | refine zaa ?_ | (refine zac ?_; (conv => { arg 5; simp })))) | (refine zab rfl ?_ ?_; (focus (simp; done))))); with_reducible refine zad ?_
  refine WP.condK' ?_; (conv => { arg 1; simp (disch := omega) [if_pos] }); refine zay ⟨?_, ?_⟩
  · intro h
    have h : A.length < B.length := by simpa using h
    refine WP.seq (WP.reg rfl ?_); (conv => { arg 3; simp [prep, prep1] }); (repeat (first | (refine zae ?_ ?_; (focus (simp; done)); (conv => { arg 4; simp (disch := omega) [if_pos] }); (first | refine zaa ?_ | (refine zac ?_; (conv => { arg 5; simp })))) | (refine zab rfl ?_ ?_; (focus (simp; done))))); with_reducible refine zad ?_
    refine WP.ret ?_
    refine ⟨[], ?_⟩
    have := hltA h
    simp (disch := omega) [if_pos, cmpI, this]
  intro h
  have h1 : ¬ A.length < B.length := by simpa using h
  refine WP.seq (WP.reg rfl ?_); (conv => { arg 3; simp [prep, prep1] }); (repeat (first | (refine zae ?_ ?_; (focus (simp; done)); (conv => { arg 4; simp (disch := omega) [if_pos] }); (first | refine zaa ?_ | (refine zac ?_; (conv => { arg 5; simp })))) | (refine zab rfl ?_ ?_; (focus (simp; done))))); with_reducible refine zad ?_
  refine WP.condK' ?_; (conv => { arg 1; simp (disch := omega) [if_pos] }); refine zay ⟨?_, ?_⟩
  · intro h
    have h : B.length < A.length := by simpa using h
    refine WP.seq (WP.reg rfl ?_); (conv => { arg 3; simp [prep, prep1] }); (repeat (first | (refine zae ?_ ?_; (focus (simp; done)); (conv => { arg 4; simp (disch := omega) [if_pos] }); (first | refine zaa ?_ | (refine zac ?_; (conv => { arg 5; simp })))) | (refine zab rfl ?_ ?_; (focus (simp; done))))); with_reducible refine zad ?_
    refine WP.ret ?_
    refine ⟨[], ?_⟩
    have := hltB h
    simp (disch := omega) [if_pos, cmpI, this, show ¬ val a < val b by omega]
  intro h
  have h2 : ¬ B.length < A.length := by simpa using h
  have hl : A.length = B.length := by omega
  refine WP.skip ?_
  refine WP.seq (WP.seq (WP.reg rfl ?_)); (conv => { arg 3; simp [prep, prep1] }); (repeat (first | (refine zae ?_ ?_; (focus (simp; done)); (conv => { arg 4; simp (disch := omega) [if_pos] }); (first | refine zaa ?_ | (refine zac ?_; (conv => { arg 5; simp })))) | (refine zab rfl ?_ ?_; (focus (simp; done))))); with_reducible refine zad ?_
  refine WP.block ?_
  refine WP.loop (fun m s => m ≤ A.length ∧ s.frame 0 = wl A ∧ s.frame 1 = wl B ∧ s.frame 5 = .int .i64 ((m : Int) - 1) ∧ A.drop m = B.drop m) A.length ?_ ?_
  · refine ⟨by omega, by simp [wl], by simp [wl], by simp, by rw [List.drop_of_length_le (Nat.le_refl _), List.drop_of_length_le (by omega)]⟩
  · rintro m ⟨f, σ, g⟩ ⟨hm, h0, h1', h5, hd⟩
    simp only at h0 h1' h5
    cases m with
    | zero =>
      have hAB : A = B := by simpa using hd
      have hv : val a = val b := by rw [← vA, ← vB, hAB]
      refine WP.seq (WP.seq (WP.reg rfl ?_)); (conv => { arg 3; simp [prep, prep1] }); (repeat (first | (refine zae ?_ ?_; (focus (simp; done)); (conv => { arg 4; simp (disch := omega) [if_pos, h5] }); (first | refine zaa ?_ | (refine zac ?_; (conv => { arg 5; simp })))) | (refine zab rfl ?_ ?_; (focus (simp; done))))); with_reducible refine zad ?_
      refine WP.condK' ?_; (conv => { arg 1; simp (disch := omega) [if_pos] }); refine zay ⟨?_, ?_⟩
      · intro h; simp at h
      intro _
      refine WP.exit ?_
      refine WP.seq (WP.reg rfl ?_); (conv => { arg 3; simp [prep, prep1] }); (repeat (first | (refine zae ?_ ?_; (focus (simp; done)); (conv => { arg 4; simp (disch := omega) [if_pos] }); (first | refine zaa ?_ | (refine zac ?_; (conv => { arg 5; simp })))) | (refine zab rfl ?_ ?_; (focus (simp; done))))); with_reducible refine zad ?_
      refine WP.ret ?_
      refine ⟨[], ?_⟩
      simp (disch := omega) [if_pos, cmpI, hv]
    | succ m =>
      have hma : m < A.length := by omega
      have hmb : m < B.length := by omega
      have eA : (ws A)[m]? = some (w32 (A[m]'hma)) := by simp [ws, hma]
      have eB : (ws B)[m]? = some (w32 (B[m]'hmb)) := by simp [ws, hmb]
      have h5 : f 5 = .int .i64 (m : Int) := by rw [h5]; simp
      have k1 := zqg wA wB hma hmb hd
      have k2 := zqg wB wA hmb hma hd.symm
      have hdm : A[m]'hma = B[m]'hmb → A.drop m = B.drop m := fun e => by rw [List.drop_eq_getElem_cons hma, List.drop_eq_getElem_cons hmb, e, hd]
      rw [vA, vB] at k1 k2
      generalize A[m]'hma = x at *
      generalize B[m]'hmb = y at *
      refine WP.seq (WP.seq (WP.reg rfl ?_)); (conv => { arg 3; simp [prep, prep1] }); (repeat (first | (refine zae ?_ ?_; (focus (simp; done)); (conv => { arg 4; simp (disch := omega) [if_pos, h5] }); (first | refine zaa ?_ | (refine zac ?_; (conv => { arg 5; simp })))) | (refine zab rfl ?_ ?_; (focus (simp; done))))); with_reducible refine zad ?_
      refine WP.condK' ?_; (conv => { arg 1; simp (disch := omega) [if_pos] }); refine zay ⟨?_, ?_⟩
      rotate_left
      · intro h; simp at h
      intro _
      refine WP.skip ?_
      refine WP.seq (WP.block (WP.block (WP.seq (WP.regD [] [] zai rfl ?_)))); (conv => { arg 3; simp [prep, prep1] }); (repeat (first | (refine zae ?_ ?_; (focus (simp; done)); (conv => { arg 4; simp (disch := omega) [if_pos, h0, h1', h5, wl, eA, eB, hma, hmb, w32] }); (first | refine zaa ?_ | (refine zac ?_; (conv => { arg 5; simp })))) | (refine zab rfl ?_ ?_; (focus (simp; done))))); with_reducible refine zad ?_
      refine ⟨by simp [quietB], by simp [quietU], ?_⟩
      refine WP.condK' ?_; (conv => { arg 1; simp (disch := omega) [if_pos] }); refine zay ⟨?_, ?_⟩
      · intro h
        have h : x < y := by simpa using h
        refine WP.seq (WP.reg rfl ?_); (conv => { arg 3; simp [prep, prep1] }); (repeat (first | (refine zae ?_ ?_; (focus (simp; done)); (conv => { arg 4; simp (disch := omega) [if_pos] }); (first | refine zaa ?_ | (refine zac ?_; (conv => { arg 5; simp })))) | (refine zab rfl ?_ ?_; (focus (simp; done))))); with_reducible refine zad ?_
        refine WP.ret ?_
        refine ⟨[], ?_⟩
        have := k1 h
        simp (disch := omega) [if_pos, cmpI, this]
      intro h
      have hxy : ¬ x < y := by simpa using h
      refine WP.seq (WP.regD [] [] zai rfl ?_); (conv => { arg 3; simp [prep, prep1] }); (repeat (first | (refine zae ?_ ?_; (focus (simp; done)); (conv => { arg 4; simp (disch := omega) [if_pos, h0, h1', h5, wl, eA, eB, hma, hmb, w32] }); (first | refine zaa ?_ | (refine zac ?_; (conv => { arg 5; simp })))) | (refine zab rfl ?_ ?_; (focus (simp; done))))); with_reducible refine zad ?_
      refine ⟨by simp [quietB], by simp [quietU], ?_⟩
      refine WP.condK' ?_; (conv => { arg 1; simp (disch := omega) [if_pos] }); refine zay ⟨?_, ?_⟩
      · intro h
        have h : y < x := by simpa using h
        refine WP.seq (WP.reg rfl ?_); (conv => { arg 3; simp [prep, prep1] }); (repeat (first | (refine zae ?_ ?_; (focus (simp; done)); (conv => { arg 4; simp (disch := omega) [if_pos] }); (first | refine zaa ?_ | (refine zac ?_; (conv => { arg 5; simp })))) | (refine zab rfl ?_ ?_; (focus (simp; done))))); with_reducible refine zad ?_
        refine WP.ret ?_
        refine ⟨[], ?_⟩
        have := k2 h
        simp (disch := omega) [if_pos, cmpI, this, show ¬ val a < val b by omega]
      intro h
      have hyx : ¬ y < x := by simpa using h
      refine WP.skip ?_
      refine WP.reg rfl ?_; (conv => { arg 3; simp [prep, prep1] }); (repeat (first | (refine zae ?_ ?_; (focus (simp; done)); (conv => { arg 4; simp (disch := omega) [if_pos, h5] }); (first | refine zaa ?_ | (refine zac ?_; (conv => { arg 5; simp })))) | (refine zab rfl ?_ ?_; (focus (simp; done))))); with_reducible refine zad ?_
      exact ⟨m, by omega, by omega, by simp [h0], by simp [h1'], by simp, hdm (by omega)⟩
end Go.Proofs.YthgldcflcmlgpaaGreatDoorE
end
section
/- Calls whose arguments are worked out before the contract is held against them. -/
set_option linter.unusedVariables false
set_option linter.unusedSimpArgs false
namespace Go.Proofs.YthgldcflcmlgpaaGreatDoorE
open Go.RowKit
def sideB (r : PV) (rb : List Blk) (fz : Bool) : Bool := cellP r && rb.all (fun b => b.flat || b.cells.all cellB) && (fz || (rb.isEmpty && scalarP r))
def callC (P : Program) (f : FuncId) (s : St) (d : Nat) (fz : Bool) (x : Option (List PV × List Id)) (K : Eff → Prop) : Prop :=
  match x with
  | some (ps, tl) => ∃ r rb, CallOk P f ps [] r rb ∧ sideB r rb fz = true ∧ K (callE [] tl d (s.gens d) r rb fz s.store)
  | none => False
theorem zaf {P : Program} {f : FuncId} {s : St} {d : Nat} {r : PV} {rb : List Blk} {fz : Bool} {ps : List PV} {tl : List Id} {K : Eff → Prop} (hc : CallOk P f ps [] r rb) (hs : sideB r rb fz = true) (hk : K (callE [] tl d (s.gens d) r rb fz s.store)) :
    callC P f s d fz (some (ps, tl)) K := ⟨r, rb, hc, hs, hk⟩
theorem zal {P : Program} {o : Oper} {s : St} {K : Eff → Prop} {f : FuncId} {args : Array Operand} {at_ : Array TypeId} {d : Nat} (fz : Bool)
    (ho : o.op = .call { callee := .value (.func f), args := args, argTypes := at_ }) (hd : o.dst = some d) (hf : FnOk P f)
    (h : callC P f s d fz (expL (expA s.store []) (args.toList.map (pv s.frame))) K) : contK P o s none K := by
  unfold callC at h
  split at h
  · rename_i ps tl h1
    obtain ⟨r, rb, hc, hs, hk⟩ := h
    refine zbu [] tl [] fz hc hf ?_ ho hd h1 rfl List.nodup_nil (by simp) (by rw [List.append_nil]; exact hk)
    unfold sideB at hs
    simp only [Bool.and_eq_true] at hs ⊢
    exact ⟨⟨hs.1, by simp⟩, hs.2⟩
  · exact h.elim
end Go.Proofs.YthgldcflcmlgpaaGreatDoorE
end
section
/- Walks along a list of what is still to be done. -/
set_option linter.unusedVariables false
set_option linter.unusedSimpArgs false
namespace Go.Proofs.YthgldcflcmlgpaaGreatDoorE
open Go.RowKit
/- What a simp step may use: told as equations that are proved, so that the kernel need not find them again. -/
theorem pv_t (f : Nat → PV) (t : Nat) : pv f (.tmp t) = f t := Eq.trans (pv.eq_1 f t) (Eq.refl _)
theorem pv_c (f : Nat → PV) (v : Value) : pv f (.const v) = ofConst v := Eq.trans (pv.eq_2 f v) (Eq.refl _)
theorem pv_g (f : Nat → PV) (g : Nat) : pv f (.global g) = .any := Eq.trans (pv.eq_3 f g) (Eq.refl _)
theorem pv_f (f : Nat → PV) (g : Nat) : pv f (.func g) = .fn g [] [] := Eq.trans (pv.eq_4 f g) (Eq.refl _)
theorem zfd {α : Type} (f : Nat → α) (d t : Nat) (x : α) : upd f d x t = if t = d then x else f t := Eq.trans (zpb f d t x) (Eq.refl _)
theorem zcr {α : Type} (f : Id → α) (d t : Id) (x : α) : updI f d x t = if t = d then x else f t := Eq.trans (zmj f d t x) (Eq.refl _)
def disj (a b : List Id) : Bool := a.all fun x => b.all fun y => (x.d != y.d) || (x.j != y.j)
theorem zmx {a b : List Id} (h : disj a b = true) : ∀ id ∈ a, id ∉ b := by
  intro id ha hb
  have h1 := List.all_eq_true.1 (List.all_eq_true.1 h id ha) id hb
  simp at h1
def touchR (es : List Eff) (l : List (Nat × Nat)) : Bool :=
  l.all fun p => disj (wids (es.getD p.1 noEff)) (es.getD p.2 noEff).reads && disj (wids (es.getD p.2 noEff)) (es.getD p.1 noEff).reads && disj (wids (es.getD p.1 noEff)) (wids (es.getD p.2 noEff))
def bumpR : List Oper → List Eff → Bool
  | o :: l, e :: es => (!e.bump || o.dst.isSome) && bumpR l es
  | _, _ => true
def freeR (l : List Oper) (es : List Eff) : Bool := bumpR l es && touchR es (unordL l.toArray)
theorem zlg {ops : Array Oper} {es : List Eff} : ∀ {l : List (Nat × Nat)}, touchR es l = true → touchFree ops es l
  | [], _ => trivial
  | (i, j) :: r, h => by
    simp only [touchR, List.all_cons, Bool.and_eq_true] at h
    obtain ⟨⟨⟨h1, h2⟩, h3⟩, h4⟩ := h
    exact ⟨⟨zmx h1, zmx h2, zmx h3⟩, zlg (l := r) (by simpa [touchR] using h4)⟩
theorem zoh : ∀ {l : List Oper} {es : List Eff}, bumpR l es = true → bumpB l es
  | [], _, _ => trivial
  | o :: l, [], _ => trivial
  | o :: l, e :: es, h => by
    simp only [bumpR, Bool.and_eq_true, Bool.or_eq_true, Bool.not_eq_true'] at h
    refine ⟨fun hb hn => ?_, zoh h.2⟩
    rcases h.1 with h1 | h1
    · rw [hb] at h1; cases h1
    · rw [hn] at h1; cases h1
theorem WP.regT {P : Program} {nt : Nat} {Q : Exit → St → Prop} {s : St} {id : Nat} {l : List Oper} (hm : P.follows .mixedOrders = true) (hc : (dstB nt l && edgesB l.toArray && apartB l.toArray) = true)
    (h : runK P (fun es s' => freeR l es.reverse = true ∧ Q .normal s') (prep l) [] s) : WP P nt (.region id l.toArray true) Q s := by
  obtain ⟨es, s', h1, h2, h4⟩ := zhu h
  simp only [Bool.and_eq_true] at hc
  obtain ⟨⟨c1, c2⟩, c3⟩ := hc
  simp only [List.append_nil, List.reverse_reverse, freeR, Bool.and_eq_true] at h2
  exact WP.regionD hm c1 c2 c3 h1 (zoh h2.1) (zlg h2.2) h4
def WL (P : Program) (nt : Nat) : List Code → (Exit → St → Prop) → St → Prop
  | [], Q, s => Q .normal s
  | c :: cs, Q, s => WP P nt c (thenQ (WL P nt cs Q) Q) s
section
variable {P : Program} {nt : Nat} {Q : Exit → St → Prop} {s : St} {cs : List Code}
theorem WL.one {c : Code} (h : WL P nt [c] Q s) : WP P nt c Q s := WP.mono h fun e s h => by cases e <;> exact h
theorem WL.nil (h : Q .normal s) : WL P nt [] Q s := h
theorem WL.seq {x y : Code} (h : WL P nt (x :: y :: cs) Q s) : WL P nt (.seq x y :: cs) Q s := by
  show WP P nt (.seq x y) (thenQ (WL P nt cs Q) Q) s
  refine WP.seq (WP.mono h fun e s' hq => ?_)
  cases e <;> exact hq
theorem WL.skip (h : WL P nt cs Q s) : WL P nt (.skip :: cs) Q s := WP.skip h
theorem WL.label {l : Nat} (h : WL P nt cs Q s) : WL P nt (.label l :: cs) Q s := WP.label h
theorem WL.exit {id : Nat} (h : Q (.exit id) s) : WL P nt (.exit id :: cs) Q s := WP.exit h
theorem WL.ret (h : Q .ret s) : WL P nt (.ret :: cs) Q s := WP.ret h
theorem WL.block {id : Nat} {c : Code} (h : WL P nt [c] (blockQ id (thenQ (WL P nt cs Q) Q)) s) : WL P nt (.block id c :: cs) Q s := WP.block (WL.one h)
theorem WL.cond {c : Operand} {x y : Code} (h : condK (pv s.frame c) (WL P nt (x :: cs) Q s) (WL P nt (y :: cs) Q s)) : WL P nt (.cond c x y :: cs) Q s := WP.condK' h
theorem zaj {x y : Prop} (h : x) : condK (.bool true) x y := zay ⟨fun _ => h, fun h => by cases h⟩
theorem zak {x y : Prop} (h : y) : condK (.bool false) x y := zay ⟨fun h => (by cases h), fun _ => h⟩
theorem zop {p : Prop} [Decidable p] {x y : Prop} (h1 : p → x) (h2 : ¬ p → y) : condK (.bool (decide p)) x y := zay ⟨fun h => h1 (of_decide_eq_true h), fun h => h2 (of_decide_eq_false h)⟩
theorem zag {p : Prop} [Decidable p] {x y : Prop} (hp : p) (h1 : x) : condK (.bool (decide p)) x y := zop (fun _ => h1) fun h => absurd hp h
theorem zah {p : Prop} [Decidable p] {x y : Prop} (hp : ¬ p) (h2 : y) : condK (.bool (decide p)) x y := zop (fun h => absurd h hp) fun _ => h2
theorem zqk {b : Bool} {x y : Prop} (h1 : b = true → x) (h2 : b = false → y) : condK (.bool b) x y := zay ⟨h1, h2⟩
theorem WL.reg {id : Nat} {l : List Oper} (hd : dstB nt l = true) (h : runK P (fun _ s' => WL P nt cs Q s') (prep l) [] s) : WL P nt (.region id l.toArray false :: cs) Q s := WP.reg hd h
theorem WL.regD {id : Nat} {l : List Oper} (W U : List Nat) (hm : P.follows .mixedOrders = true) (hc : (dstB nt l && edgesB l.toArray && apartB l.toArray && apartW W (unordL l.toArray) && namedB U l) = true)
    (h : runK P (fun es s' => quietB W es 0 ∧ quietU U es ∧ WL P nt cs Q s') (prep l) [] s) : WL P nt (.region id l.toArray true :: cs) Q s := WP.regD W U hm hc h
theorem WL.nilB {id : Nat} (h : WL P nt cs Q s) : WL P nt [] (blockQ id (thenQ (WL P nt cs Q) Q)) s := h
theorem WL.nilT {J : St → Prop} (h : J s) : WL P nt [] (thenQ J Q) s := h
theorem WL.exB {id : Nat} (h : WL P nt cs Q s) : blockQ id (thenQ (WL P nt cs Q) Q) (.exit id) s := by simp only [blockQ, if_true]; exact h
theorem WL.exN {id id2 : Nat} {K : St → Prop} (hn : (id == id2) = false) (h : Q (.exit id) s) : blockQ id2 (thenQ K Q) (.exit id) s := by
  have : id ≠ id2 := by simpa using hn
  simp only [blockQ, if_neg this]; exact h
theorem WL.exT {id : Nat} {K : St → Prop} (h : Q (.exit id) s) : thenQ K Q (.exit id) s := h
theorem WL.reB {id : Nat} {K : St → Prop} (h : Q .ret s) : blockQ id (thenQ K Q) .ret s := h
theorem WL.reT {K : St → Prop} (h : Q .ret s) : thenQ K Q .ret s := h
def scopeQ (Q : Exit → St → Prop) : Exit → St → Prop
  | .goto _, _ => False
  | e, s => Q e s
theorem WP.scope {c : Code} (h : WP P nt c (scopeQ Q) s) : WP P nt (.scope c) Q s := fun cx a w hn hr =>
  wp_scope_straight (wp_mono (h cx a w hn hr) fun e a' w' ⟨s', h1, h2⟩ => by
    cases e <;> simp only [scopeQ] at h1 <;> simp only [Exit.noGoto] <;> first | exact ⟨s', h1, h2⟩ | exact h1.elim)
theorem WL.scope {c : Code} (h : WL P nt [c] (scopeQ (thenQ (WL P nt cs Q) Q)) s) : WL P nt (.scope c :: cs) Q s := WP.scope (WL.one h)
theorem WL.nilS {K : St → Prop} (h : K s) : WL P nt [] (scopeQ (thenQ K Q)) s := h
theorem WL.reS {K : St → Prop} (h : Q .ret s) : scopeQ (thenQ K Q) .ret s := h
theorem WL.exS {id : Nat} {K : St → Prop} (h : Q (.exit id) s) : scopeQ (thenQ K Q) (.exit id) s := h
theorem WL.regT {id : Nat} {l : List Oper} (hm : P.follows .mixedOrders = true) (hc : (dstB nt l && edgesB l.toArray && apartB l.toArray) = true)
    (h : runK P (fun es s' => freeR l es.reverse = true ∧ WL P nt cs Q s') (prep l) [] s) : WL P nt (.region id l.toArray true :: cs) Q s := WP.regT hm hc h
theorem WL.loop {c : Code} (I : Nat → St → Prop) (n : Nat) (h0 : I n s) (h : ∀ n s, I n s → WL P nt [c] (thenQ (fun s' => ∃ m, m < n ∧ I m s') (thenQ (WL P nt cs Q) Q)) s) : WL P nt (.loop c :: cs) Q s :=
  WP.loop I n h0 fun n s hI => WP.mono (WL.one (h n s hI)) fun e s hq => by cases e <;> exact hq
theorem WL.mid {c : Code} (J : St → Prop) (h1 : WL P nt [c] (thenQ J Q) s) (h2 : ∀ s', J s' → WL P nt cs Q s') : WL P nt (c :: cs) Q s :=
  (WL.one h1).mono fun e s' h => by cases e <;> first | exact h2 _ h | exact h
end
theorem CallOk.of_wl {P : Program} {f : FuncId} {fn : Func} {code : Code} {ps : List PV} {ib : List Blk} {r : PV} {rb : List Blk} {nt : Nat} {rs : List ResultVar} (hf : P.funcs[f]? = some fn) (hb : fn.body = some code) (hnt : fn.ntmps = nt)
    (hrs : fn.results.toList = rs) (hn : ps.length ≤ nt) (h : WL P nt [code] (endK P rs ib.length r rb) ⟨fun t => ps.getD t .any, stOf ib, fun d => if d = 0 then 1 else 0⟩) : CallOk P f ps ib r rb := CallOk.of_wpL hf hb hnt hrs hn (WL.one h)
end Go.Proofs.YthgldcflcmlgpaaGreatDoorE
end
