/- A region's operations as a condition that can be worked out step by step. -/
import Derived.Test.YtabofinagjdljaaEq
set_option linter.unusedVariables false
set_option linter.unusedSimpArgs false
namespace Go.Proofs.YtabofinagjdljaaE
open Go.RowKit

def effC (P : Program) (c : Call) (dst : Option Nat) (s : St) : Option Eff :=
  match c.callee with
  | .builtin .append => match dst, c.args.toList, c.argTypes.toList with
    | some d, [x, y], [t, tx] => appendE P t tx (pv s.frame x) (pv s.frame y) s.store d (s.gens d)
    | _, _, _ => none
  | .builtin .copy => match c.args.toList, c.argTypes.toList with
    | [x, y], [t, tx] => copyE P t tx (pv s.frame x) (pv s.frame y) s.store
    | _, _ => none
  | .value _ => none
  | _ => (evalV P (.call c) (pv s.frame) s.store).map fun (p, rs) => ⟨p, rs, [], false⟩

def effF (P : Program) (op : Op) (dst : Option Nat) (s : St) : Option Eff :=
  match op with
  | .load t x => (evalL P (.load t x) (pv s.frame) s.store).map fun (p, rs) => ⟨p, rs, [], false⟩
  | .alloc t => match dst with | some d => allocE P t d (s.gens d) | none => none
  | .box t x => match dst with | some d => boxE (pv s.frame x) d (s.gens d) | none => none
  | .store t x y => match dst with | none => storeE P t (pv s.frame x) (pv s.frame y) s.store | some _ => none
  | .makeSlice t x y => match dst with | some d => makeE P t (pv s.frame x) (pv s.frame y) d (s.gens d) | none => none
  | .buildSlice t len ps => match dst with | some d => litE P t len (allParts (pv s.frame) ps.toList) s.store d (s.gens d) | none => none
  | .call c => effC P c dst s
  | op => (evalV P op (pv s.frame) s.store).map fun (p, rs) => ⟨p, rs, [], false⟩

theorem effV_ok {P : Program} {o : Oper} {s : St} {e : Eff} (h : (evalV P o.op (pv s.frame) s.store).map (fun (x : PV × List Id) => (⟨x.1, x.2, [], false⟩ : Eff)) = some e) : OpEff P o s e := by
  cases hv : evalV P o.op (pv s.frame) s.store with
  | none => rw [hv] at h; cases h
  | some q =>
    rw [hv] at h; injection h with h; subst h
    exact opEff_value hv

theorem effF_ok {P : Program} {o : Oper} {s : St} {e : Eff} (h : effF P o.op o.dst s = some e) : OpEff P o s e := by
  cases ho : o.op with
  | load t x =>
    rw [ho] at h
    simp only [effF] at h
    cases hv : evalL P (.load t x) (pv s.frame) s.store with
    | none => rw [hv] at h; cases h
    | some q =>
      rw [hv] at h; injection h with h; subst h
      exact opEff_load (by rw [ho]; exact hv)
  | alloc t =>
    rw [ho] at h
    cases hd : o.dst with
    | none => rw [hd] at h; cases h
    | some d => rw [hd] at h; exact opEff_alloc ho hd h
  | box t x =>
    rw [ho] at h
    cases hd : o.dst with
    | none => rw [hd] at h; cases h
    | some d => rw [hd] at h; exact opEff_box ho hd h
  | store t x y =>
    rw [ho] at h
    cases hd : o.dst with
    | some d => rw [hd] at h; cases h
    | none => rw [hd] at h; exact opEff_store ho hd h
  | makeSlice t x y =>
    rw [ho] at h
    cases hd : o.dst with
    | none => rw [hd] at h; cases h
    | some d => rw [hd] at h; exact opEff_make ho hd h
  | buildSlice t len ps =>
    rw [ho] at h
    cases hd : o.dst with
    | none => rw [hd] at h; cases h
    | some d => rw [hd] at h; exact opEff_lit ho hd h
  | call c =>
    have h0 := h
    rw [ho] at h
    obtain ⟨callee, args, ats⟩ := c
    simp only [effF, effC] at h
    split at h
    · split at h
      · rename_i d x y t tx hd ha hat
        obtain ⟨args⟩ := args
        obtain ⟨ats⟩ := ats
        simp only at ha hat
        subst ha; subst hat
        exact opEff_append ho hd h
      · cases h
    · split at h
      · rename_i x y t tx ha hat
        obtain ⟨args⟩ := args
        obtain ⟨ats⟩ := ats
        simp only at ha hat
        subst ha; subst hat
        exact opEff_copy ho h
      · cases h
    · cases h
    · rw [← ho] at h
      exact effV_ok h
  | _ => exact effV_ok (by simpa only [effF, ho] using h)

/-- Go on with an effect, or with one that a contract tells. -/
def contK (P : Program) (o : Oper) (s : St) (r : Option Eff) (K : Eff → Prop) : Prop :=
  match r with
  | some e => K e
  | none => ∃ e, OpEff P o s e ∧ K e

@[simp] theorem contK_some {P : Program} {o : Oper} {s : St} {e : Eff} {K : Eff → Prop} : contK P o s (some e) K = K e := rfl

theorem contK_ok {P : Program} {o : Oper} {s : St} {K : Eff → Prop} (h : contK P o s (effF P o.op o.dst s) K) : ∃ e, OpEff P o s e ∧ K e := by
  unfold contK at h
  split at h
  · rename_i e he; exact ⟨e, effF_ok he, h⟩
  · exact h

/-- The guards as variables. -/
def prep1 (l : List Oper) (o : Oper) : Option (Option (Nat × Bool)) :=
  match o.guard with
  | none => some none
  | some (j, want) => match l[j]? with
    | some o' => match o'.dst with
      | some d => some (some (d, want))
      | none => none
    | none => none
def prep (l : List Oper) : List (Option (Option (Nat × Bool)) × Oper) := l.map fun o => (prep1 l o, o)

def wantK (g : Option (Option (Nat × Bool))) (f : Nat → PV) : Option Bool :=
  match g with
  | none => none
  | some none => some true
  | some (some (d, want)) => match f d with
    | .bool b => some (b == want)
    | .tup [] => some false
    | _ => none

theorem wantK_ok {l : List Oper} {o : Oper} {f : Nat → PV} {b : Bool} (h : wantK (prep1 l o) f = some b) : wantedA l.toArray o f = some b := by
  unfold wantK prep1 at h
  unfold wantedA
  cases hg : o.guard with
  | none => rw [hg] at h; exact h
  | some g =>
    obtain ⟨j, want⟩ := g
    rw [hg] at h
    simp only [List.getElem?_toArray]
    simp only at h
    cases hl : l[j]? with
    | none => rw [hl] at h; cases h
    | some o' =>
      rw [hl] at h
      simp only at h
      simp only [Option.bind_some]
      cases hd : o'.dst with
      | none => rw [hd] at h; cases h
      | some d =>
        rw [hd] at h
        exact h

/-- Run or passed over. -/
def caseK (w : Option Bool) (x y : Prop) : Prop :=
  match w with
  | some true => x
  | some false => y
  | none => False
@[simp] theorem caseK_t {x y : Prop} : caseK (some true) x y = x := rfl
@[simp] theorem caseK_f {x y : Prop} : caseK (some false) x y = y := rfl

def runK (P : Program) (K : List Eff → St → Prop) : List (Option (Option (Nat × Bool)) × Oper) → List Eff → St → Prop
  | [], es, s => K es s
  | (g, o) :: l, es, s => caseK (wantK g s.frame) (contK P o s (effF P o.op o.dst s) fun e => runK P K l (e :: es) (s.eff o.dst e)) (runK P K l (noEff :: es) (s.put o.dst (.tup [])))


theorem runK_go {P : Program} {K : List Eff → St → Prop} {g : Option (Option (Nat × Bool))} {o : Oper} {l : List (Option (Option (Nat × Bool)) × Oper)} {es : List Eff} {s : St} (hw : wantK g s.frame = some true)
    (h : contK P o s (effF P o.op o.dst s) fun e => runK P K l (e :: es) (s.eff o.dst e)) : runK P K ((g, o) :: l) es s := by
  simp only [runK, hw, caseK_t]; exact h
theorem runK_skip {P : Program} {K : List Eff → St → Prop} {g : Option (Option (Nat × Bool))} {o : Oper} {l : List (Option (Option (Nat × Bool)) × Oper)} {es : List Eff} {s : St} (hw : wantK g s.frame = some false)
    (h : runK P K l (noEff :: es) (s.put o.dst (.tup []))) : runK P K ((g, o) :: l) es s := by
  simp only [runK, hw, caseK_f]; exact h
theorem runK_nil {P : Program} {K : List Eff → St → Prop} {es : List Eff} {s : St} (h : K es s) : runK P K [] es s := h
theorem contK_go {P : Program} {o : Oper} {s : St} {e : Eff} {K : Eff → Prop} (h : K e) : contK P o s (some e) K := h
theorem upd_at {α : Type} (f : Nat → α) (d t : Nat) (x : α) : upd f d x t = if t = d then x else f t := rfl
theorem updI_at {α : Type} (f : Id → α) (d t : Id) (x : α) : updI f d x t = if t = d then x else f t := rfl

theorem runK_ok {P : Program} {K : List Eff → St → Prop} {l0 : List Oper} : ∀ {l : List Oper} {es : List Eff} {s : St}, runK P K (l.map fun o => (prep1 l0 o, o)) es s → ∃ es' s', Runs P l0.toArray l s es' s' ∧ K (es'.reverse ++ es) s'
  | [], es, s, h => ⟨[], s, .nil s, h⟩
  | o :: l, es, s, h => by
    simp only [List.map_cons, runK, caseK] at h
    split at h
    · rename_i hw
      obtain ⟨e, h1, h2⟩ := contK_ok h
      obtain ⟨es', s', k1, k2⟩ := runK_ok h2
      exact ⟨e :: es', s', .cons _ _ _ _ _ _ (.inl ⟨wantK_ok hw, h1⟩) k1, by simpa using k2⟩
    · rename_i hw
      obtain ⟨es', s', k1, k2⟩ := runK_ok h
      exact ⟨noEff :: es', s', .cons _ _ _ _ _ _ (.inr ⟨wantK_ok hw, rfl⟩) (by rw [eff_no]; exact k1), by simpa using k2⟩
    · cases h

section
variable {P : Program} {nt : Nat} {Q : Exit → St → Prop} {s : St}
theorem WP.reg {id : Nat} {l : List Oper} (hd : dstB nt l = true) (h : runK P (fun _ s' => Q .normal s') (prep l) [] s) : WP P nt (.region id l.toArray false) Q s := by
  obtain ⟨es, s', h1, h2⟩ := runK_ok h
  exact WP.region hd h1 h2

/-- Which operations may write. -/
def quietB (W : List Nat) : List Eff → Nat → Prop
  | [], _ => True
  | e :: r, n => (if r.length ∈ W then True else e.wr = []) ∧ quietB W r n
def apartW (W : List Nat) (l : List (Nat × Nat)) : Bool := l.all fun (i, j) => !W.contains i && !W.contains j

theorem quietB_at {W : List Nat} : ∀ {es : List Eff} {n : Nat}, quietB W es n → ∀ i, i ∉ W → (es.reverse.getD i noEff).wr = []
  | [], _, _, i, _ => by simp [List.getD, noEff]
  | e :: r, n, h, i, hi => by
    obtain ⟨h1, h2⟩ := h
    have ih := quietB_at h2 i hi
    simp only [List.reverse_cons, List.getD_eq_getElem?_getD, List.getElem?_append, List.length_reverse] at ih ⊢
    split
    · exact ih
    · rename_i hge
      by_cases e0 : i = r.length
      · subst e0
        rw [if_neg hi] at h1
        simpa using h1
      · have : ([e] : List Eff)[i - r.length]? = none := by simp; omega
        rw [this]; simp [noEff]

theorem touchFree_quiet {ops : Array Oper} {W : List Nat} {es : List Eff} (hq : quietB W es 0) : ∀ {l : List (Nat × Nat)}, apartW W l = true → touchFree ops es.reverse l
  | [], _ => trivial
  | (i, j) :: r, h => by
    simp only [apartW, List.all_cons, Bool.and_eq_true, Bool.not_eq_true', List.contains_eq_mem, decide_eq_false_iff_not] at h
    obtain ⟨⟨h1, h2⟩, h3⟩ := h
    refine ⟨?_, touchFree_quiet hq (by simpa [apartW] using h3)⟩
    have a1 := quietB_at hq i h1
    have a2 := quietB_at hq j h2
    simp only [wids, a1, a2, List.map_nil]
    simp

def bumpK : List Oper → List Eff → Prop
  | [], _ => True
  | o :: l, es => (match es with | [] => True | e :: _ => (e.bump = true → o.dst ≠ none)) ∧ bumpK l es.tail

/-- Which operations have no name of their own. -/
def quietU (U : List Nat) : List Eff → Prop
  | [] => True
  | e :: r => (if r.length ∈ U then e.bump = false else True) ∧ quietU U r
def namedB (U : List Nat) (l : List Oper) : Bool := (List.range l.length).all fun i => match l[i]? with | some o => (match o.dst with | none => U.contains i | some _ => true) | none => true

theorem quietU_at {U : List Nat} : ∀ {es : List Eff}, quietU U es → ∀ i, i ∈ U → (es.reverse.getD i noEff).bump = false
  | [], _, i, _ => by simp [List.getD, noEff]
  | e :: r, h, i, hi => by
    obtain ⟨h1, h2⟩ := h
    have ih := quietU_at h2 i hi
    simp only [List.reverse_cons, List.getD_eq_getElem?_getD, List.getElem?_append, List.length_reverse] at ih ⊢
    split
    · exact ih
    · rename_i hge
      by_cases e0 : i = r.length
      · subst e0
        rw [if_pos hi] at h1
        simpa using h1
      · have : ([e] : List Eff)[i - r.length]? = none := by simp; omega
        rw [this]; simp [noEff]

theorem bumpB_of : ∀ {l : List Oper} {es : List Eff}, (∀ i o, l[i]? = some o → (es.getD i noEff).bump = true → o.dst ≠ none) → bumpB l es
  | [], _, _ => trivial
  | o :: l, [], _ => trivial
  | o :: l, e :: es, h => ⟨fun hb => h 0 o rfl (by simpa using hb), bumpB_of fun i o' ho hb => h (i + 1) o' (by simpa using ho) (by simpa using hb)⟩

theorem WP.regD {id : Nat} {l : List Oper} (W U : List Nat) (hm : P.follows .mixedOrders = true) (hc : (dstB nt l && edgesB l.toArray && apartB l.toArray && apartW W (unordL l.toArray) && namedB U l) = true)
    (h : runK P (fun es s' => quietB W es 0 ∧ quietU U es ∧ Q .normal s') (prep l) [] s) : WP P nt (.region id l.toArray true) Q s := by
  obtain ⟨es, s', h1, h2, h3, h4⟩ := runK_ok h
  simp only [Bool.and_eq_true] at hc
  obtain ⟨⟨⟨⟨c1, c2⟩, c3⟩, c4⟩, c5⟩ := hc
  rw [List.append_nil] at h2 h3
  refine WP.regionD hm c1 c2 c3 h1 (bumpB_of fun i o ho hb hn => ?_) (by simpa using touchFree_quiet (ops := l.toArray) h2 c4) h4
  have hi : i ∈ U := by
    have hlt : i < l.length := (List.getElem?_eq_some_iff.1 ho).1
    have := List.all_eq_true.1 c5 i (List.mem_range.2 hlt)
    simp only [ho, hn] at this
    simpa using this
  have := quietU_at h3 i hi
  rw [List.reverse_reverse] at this
  rw [this] at hb
  cases hb

def condK (p : PV) (x y : Prop) : Prop :=
  match p with
  | .bool b => (b = true → x) ∧ (b = false → y)
  | _ => False

@[simp] theorem condK_b {b : Bool} {x y : Prop} : condK (.bool b) x y = ((b = true → x) ∧ (b = false → y)) := rfl

theorem condK_go {b : Bool} {x y : Prop} (h : (b = true → x) ∧ (b = false → y)) : condK (.bool b) x y := h

theorem WP.condK' {c : Operand} {x y : Code} (h : condK (pv s.frame c) (WP P nt x Q s) (WP P nt y Q s)) : WP P nt (.cond c x y) Q s := by
  unfold condK at h
  split at h
  · rename_i b hb
    exact WP.cond b hb h.1 h.2
  · cases h
end

theorem wrap_i64 {x : Int} (h : -9223372036854775808 ≤ x ∧ x ≤ 9223372036854775807) : IntKind.wrap .i64 x = x := by
  rw [IntKind.wrap_i64]; omega
end Go.Proofs.YtabofinagjdljaaE
