/- Rules for code over abstract states. -/
import Derived.Test.YtabofinagjdljaaEk
set_option linter.unusedVariables false
set_option linter.unusedSimpArgs false
namespace Go.Proofs.YtabofinagjdljaaE
open Go.RowKit

def WP (P : Program) (nt : Nat) (c : Code) (Q : Exit → St → Prop) (s : St) : Prop :=
  ∀ (cx : Ctx) (a : Act) (w : World), cx.nt = nt → Rel cx s a w → c.wp P (fun e a' w' => ∃ s', Q e s' ∧ Rel cx s' a' w') a w

def thenQ (next : St → Prop) (Q : Exit → St → Prop) : Exit → St → Prop
  | .normal, s => next s
  | e, s => Q e s

def blockQ (id : Nat) (Q : Exit → St → Prop) : Exit → St → Prop
  | .exit id', s => if id' = id then Q .normal s else Q (.exit id') s
  | e, s => Q e s

section
variable {P : Program} {nt : Nat} {Q : Exit → St → Prop} {s : St}

theorem WP.mono {c : Code} {Q' : Exit → St → Prop} (h : WP P nt c Q s) (hq : ∀ e s, Q e s → Q' e s) : WP P nt c Q' s := fun cx a w hn hr =>
  wp_mono (h cx a w hn hr) fun e a w ⟨s', h1, h2⟩ => ⟨s', hq _ _ h1, h2⟩

theorem WP.skip (h : Q .normal s) : WP P nt .skip Q s := fun cx a w _ hr => wp_skip ⟨s, h, hr⟩
theorem WP.label {l : Nat} (h : Q .normal s) : WP P nt (.label l) Q s := fun cx a w _ hr => wp_label ⟨s, h, hr⟩
theorem WP.exit {id : Nat} (h : Q (.exit id) s) : WP P nt (.exit id) Q s := fun cx a w _ hr => wp_exit ⟨s, h, hr⟩
theorem WP.ret (h : Q .ret s) : WP P nt .ret Q s := fun cx a w _ hr => wp_ret ⟨s, h, hr⟩

theorem WP.seq {x y : Code} (h : WP P nt x (thenQ (fun s' => WP P nt y Q s') Q) s) : WP P nt (.seq x y) Q s := fun cx a w hn hr =>
  wp_seq (wp_mono (h cx a w hn hr) fun e a' w' ⟨s', h1, h2⟩ => by
    cases e <;> simp only [thenQ] at h1 <;> simp only [Exit.then] <;> first | exact h1 cx a' w' hn h2 | exact ⟨s', h1, h2⟩)

theorem WP.cond {c : Operand} {x y : Code} (b : Bool) (hc : pv s.frame c = .bool b) (ht : b = true → WP P nt x Q s) (hf : b = false → WP P nt y Q s) : WP P nt (.cond c x y) Q s := fun cx a w hn hr => by
  obtain ⟨β, hr'⟩ := hr
  have hv := VR_pv hr'.frame c
  rw [hc] at hv
  exact wp_cond_split hv.bool_inv (fun e => ht e cx a w hn ⟨β, hr'⟩) (fun e => hf e cx a w hn ⟨β, hr'⟩)

theorem WP.block {id : Nat} {c : Code} (h : WP P nt c (blockQ id Q) s) : WP P nt (.block id c) Q s := fun cx a w hn hr =>
  wp_block (wp_mono (h cx a w hn hr) fun e a' w' ⟨s', h1, h2⟩ => by
    cases e <;> simp only [blockQ] at h1 <;> simp only [Exit.inBlock]
    case exit id' =>
      split
      · rename_i e; rw [if_pos e] at h1; exact ⟨s', h1, h2⟩
      · rename_i e; rw [if_neg e] at h1; exact ⟨s', h1, h2⟩
    all_goals exact ⟨s', h1, h2⟩)

theorem least {p : Nat → Prop} (h : ∃ n, p n) : ∃ n, p n ∧ ∀ m, p m → n ≤ m := by
  obtain ⟨n, hn⟩ := h
  induction n using Nat.strongRecOn with
  | _ n ih =>
    by_cases hh : ∃ m, m < n ∧ p m
    · obtain ⟨m, h1, h2⟩ := hh
      exact ih m h1 h2
    · exact ⟨n, hn, fun m hm => Nat.le_of_not_lt fun hlt => hh ⟨m, hlt, hm⟩⟩

open Classical in
theorem WP.loop {c : Code} (I : Nat → St → Prop) (n : Nat) (h0 : I n s) (h : ∀ n s, I n s → WP P nt c (thenQ (fun s' => ∃ m, m < n ∧ I m s') Q) s) : WP P nt (.loop c) Q s := fun cx a w hn hr => by
  let J : Act → World → Prop := fun a w => ∃ n, ∃ s, I n s ∧ Rel cx s a w
  let μ : Act → World → Nat := fun a w => if hh : J a w then Classical.choose (least hh) else 0
  refine wp_loop J μ ⟨n, s, h0, hr⟩ fun a w hJ => ?_
  have hμ : μ a w = Classical.choose (least hJ) := dif_pos hJ
  obtain ⟨⟨s1, h1, h2⟩, _⟩ := Classical.choose_spec (least hJ)
  rw [← hμ] at h1
  refine wp_mono (h _ s1 h1 cx a w hn h2) fun e a' w' ⟨s', k1, k2⟩ => ?_
  cases e <;> simp only [thenQ] at k1 <;> simp only [Exit.then]
  case normal =>
    obtain ⟨m, hm, hI⟩ := k1
    have hJ' : J a' w' := ⟨m, s', hI, k2⟩
    refine ⟨hJ', ?_⟩
    have hμ' : μ a' w' = Classical.choose (least hJ') := dif_pos hJ'
    have := (Classical.choose_spec (least hJ')).2 m ⟨s', hI, k2⟩
    rw [← hμ'] at this
    omega
  all_goals exact ⟨s', k1, k2⟩

/-! ### a region in the order of its text -/
def wantedA (ops : Array Oper) (o : Oper) (f : Nat → PV) : Option Bool :=
  match o.guard with
  | none => some true
  | some (j, want) =>
    match (ops[j]?).bind (·.dst) with
    | some d => match f d with
      | .bool b => some (b == want)
      | .tup [] => some false
      | _ => none
    | none => none

def noEff : Eff := ⟨.tup [], [], [], false⟩

def Step (P : Program) (ops : Array Oper) (o : Oper) (s : St) (e : Eff) : Prop :=
  (wantedA ops o s.frame = some true ∧ OpEff P o s e) ∨ (wantedA ops o s.frame = some false ∧ e = noEff)

/-- One operation after the other: their effects, the state behind them. -/
inductive Runs (P : Program) (ops : Array Oper) : List Oper → St → List Eff → St → Prop
  | nil (s : St) : Runs P ops [] s [] s
  | cons (o : Oper) (rest : List Oper) (s : St) (e : Eff) (es : List Eff) (s' : St) : Step P ops o s e → Runs P ops rest (s.eff o.dst e) es s' → Runs P ops (o :: rest) s (e :: es) s'

theorem wanted_of {ops : Array Oper} {o : Oper} {f : Nat → PV} {b : Bool} {E : Env} {tmps : Array Value} (h : wantedA ops o f = some b) (hf : ∀ t, VR E (f t) (tmps.getD t undef)) : Region.wanted o (yielded ops tmps) = b := by
  unfold wantedA at h
  unfold Region.wanted
  split at h
  · rename_i hg
    injection h with h
    rw [hg]; exact h
  · rename_i j want hg
    rw [hg]
    split at h
    · rename_i d hd
      split at h
      · rename_i c hc
        injection h with h
        have hv := hf d
        rw [hc] at hv
        have hv := hv.bool_inv
        have hy : yielded ops tmps j = some c := by
          unfold yielded
          rw [hd]
          simp only [Option.bind_some]
          have : tmps[d]? = some (.bool c) := by
            rw [Array.getD_eq_getD_getElem?] at hv
            cases ht : tmps[d]? with
            | none => rw [ht] at hv; simp [undef] at hv
            | some u => rw [ht] at hv; simp at hv; rw [hv]
          rw [this]
        simp only [hy]
        rw [← h]
        cases c <;> cases want <;> rfl
      · rename_i hc
        injection h with h
        have hv := hf d
        rw [hc] at hv
        obtain ⟨cs, hv, hs, _⟩ := hv.tup_inv
        have hy : yielded ops tmps j = none := by
          unfold yielded
          rw [hd]
          simp only [Option.bind_some]
          rw [Array.getD_eq_getD_getElem?] at hv
          cases ht : tmps[d]? with
          | none => rfl
          | some u => rw [ht] at hv; simp at hv; rw [hv]
        simp only [hy]
        rw [← h]
        cases want <;> rfl
      · cases h
    · cases h

theorem eff_no (s : St) (d : Option Nat) : s.eff d noEff = s.put d (.tup []) := St.eff_val s d (.tup []) []

theorem step_sim {ops : Array Oper} {o : Oper} {e : Eff} (h : Step P ops o s e) {cx : Ctx} {a : Act} {w : World} (hr : Rel cx s a w) (hd : ∀ d, o.dst = some d → d < cx.nt) {K : Act → World → Prop} {Q' : Exit → Act → World → Prop}
    (hK : ∀ a' w', Rel cx (s.eff o.dst e) a' w' → K a' w') : if Region.wanted o (yielded ops a.tmps) then o.wp P a w K Q' else K (a.put o.dst undef) w := by
  obtain ⟨β, hr'⟩ := hr
  rcases h with ⟨h1, h2⟩ | ⟨h1, rfl⟩
  · rw [if_pos (wanted_of h1 hr'.frame)]
    exact h2.here cx a w K Q' ⟨β, hr'⟩ hd hK
  · rw [wanted_of h1 hr'.frame]
    simp only [Bool.false_eq_true, if_false]
    refine hK _ _ ⟨β, ?_⟩
    rw [eff_no]
    exact hr'.put o.dst (.tup []) undef hd fun _ _ => .tup _ _ rfl (by simp)

theorem runs_wp {ops : Array Oper} : ∀ {l : List Oper} {s : St} {es : List Eff} {s' : St}, Runs P ops l s es s' → (∀ o ∈ l, ∀ d, o.dst = some d → d < nt) → ∀ (cx : Ctx) (a : Act) (w : World), cx.nt = nt → Rel cx s a w → Q .normal s' →
    wpList P ops (fun e a' w' => ∃ s', Q e s' ∧ Rel cx s' a' w') l a w
  | _, _, _, _, .nil s, _, cx, a, w, _, hr, hq => wpList_nil ⟨s, hq, hr⟩
  | _, _, _, _, .cons o rest s e es s' h1 h2, hd, cx, a, w, hn, hr, hq =>
    wpList_step fun K hK => step_sim h1 hr (fun d hdd => by rw [hn]; exact hd o (by simp) d hdd) fun a' w' hr' => hK _ _ (runs_wp h2 (fun o' ho' => hd o' (by simp [ho'])) cx a' w' hn hr' hq)

def dstB (nt : Nat) (ops : List Oper) : Bool := ops.all fun o => match o.dst with | some d => decide (d < nt) | none => true

theorem dstB_spec {ops : List Oper} (h : dstB nt ops = true) : ∀ o ∈ ops, ∀ d, o.dst = some d → d < nt := by
  intro o ho d hd
  have := List.all_eq_true.1 h o ho
  rw [hd] at this
  simpa using this

theorem WP.region {id : Nat} {ops : Array Oper} {es : List Eff} {s' : St} (hd : dstB nt ops.toList = true) (h : Runs P ops ops.toList s es s') (hq : Q .normal s') : WP P nt (.region id ops false) Q s := fun cx a w hn hr =>
  wp_region_list (runs_wp h (dstB_spec hd) cx a w hn hr hq)
end

end Go.Proofs.YtabofinagjdljaaE
