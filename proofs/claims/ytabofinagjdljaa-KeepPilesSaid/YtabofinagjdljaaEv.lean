/- Regions in which what writes stands beside what only moves. -/
import Derived.Test.YtabofinagjdljaaEs
set_option linter.unusedVariables false
set_option linter.unusedSimpArgs false
namespace Go.Proofs.YtabofinagjdljaaE
open Go.RowKit

/-- Which operations neither read memory nor write it. -/
def silentB (M : List Nat) : List Eff → Prop
  | [] => True
  | e :: r => (if r.length ∈ M then e.reads = [] ∧ e.wr = [] else True) ∧ silentB M r

theorem silentB_at {M : List Nat} : ∀ {es : List Eff}, silentB M es → ∀ i, i ∈ M → (es.reverse.getD i noEff).reads = [] ∧ (es.reverse.getD i noEff).wr = []
  | [], _, i, _ => by simp [List.getD, noEff]
  | e :: r, h, i, hi => by
    obtain ⟨h1, h2⟩ := h
    have ih := silentB_at h2 i hi
    simp only [List.reverse_cons, List.getD_eq_getElem?_getD, List.getElem?_append, List.length_reverse] at ih ⊢
    split
    · exact ih
    · rename_i hge
      by_cases e0 : i = r.length
      · subst e0
        rw [if_pos hi] at h1
        simpa using h1
      · have : ([e] : List Eff)[i - r.length]? = none := by simp; omega
        rw [this]; simp [noEff]

def apartM (W M : List Nat) (l : List (Nat × Nat)) : Bool := l.all fun (i, j) => (!W.contains i && !W.contains j) || M.contains i || M.contains j

theorem touchFree_silent {ops : Array Oper} {W M : List Nat} {es : List Eff} (hq : quietB W es 0) (hs : silentB M es) : ∀ {l : List (Nat × Nat)}, apartM W M l = true → touchFree ops es.reverse l
  | [], _ => trivial
  | (i, j) :: r, h => by
    simp only [apartM, List.all_cons, Bool.and_eq_true, Bool.or_eq_true, Bool.not_eq_true', List.contains_eq_mem, decide_eq_false_iff_not, decide_eq_true_eq] at h
    obtain ⟨h1, h2⟩ := h
    refine ⟨?_, touchFree_silent hq hs (by simpa [apartM] using h2)⟩
    rcases h1 with (⟨h1, h2⟩ | h1) | h1
    · have a1 := quietB_at hq i h1
      have a2 := quietB_at hq j h2
      simp only [wids, a1, a2, List.map_nil]
      simp
    · obtain ⟨a1, a2⟩ := silentB_at hs i h1
      simp only [wids, a1, a2, List.map_nil]
      simp
    · obtain ⟨a1, a2⟩ := silentB_at hs j h1
      simp only [wids, a1, a2, List.map_nil]
      simp

theorem WP.regM {P : Program} {nt : Nat} {Q : Exit → St → Prop} {s : St} {id : Nat} {l : List Oper} (W U M : List Nat) (hm : P.follows .mixedOrders = true) (hc : (dstB nt l && edgesB l.toArray && apartB l.toArray && apartM W M (unordL l.toArray) && namedB U l) = true)
    (h : runK P (fun es s' => quietB W es 0 ∧ quietU U es ∧ silentB M es ∧ Q .normal s') (prep l) [] s) : WP P nt (.region id l.toArray true) Q s := by
  obtain ⟨es, s', h1, h2, h3, h5, h4⟩ := runK_ok h
  simp only [Bool.and_eq_true] at hc
  obtain ⟨⟨⟨⟨c1, c2⟩, c3⟩, c4⟩, c5⟩ := hc
  rw [List.append_nil] at h2 h3 h5
  refine WP.regionD hm c1 c2 c3 h1 (bumpB_of fun i o ho hb hn => ?_) (by simpa using touchFree_silent (ops := l.toArray) h2 h5 c4) h4
  have hi : i ∈ U := by
    have hlt : i < l.length := (List.getElem?_eq_some_iff.1 ho).1
    have := List.all_eq_true.1 c5 i (List.mem_range.2 hlt)
    simp only [ho, hn] at this
    simpa using this
  have := quietU_at h3 i hi
  rw [List.reverse_reverse] at this
  rw [this] at hb
  cases hb
end Go.Proofs.YtabofinagjdljaaE
