/- What a reading of an argument is, as a tree. -/
import Derived.Test.YtabofinagjdljaaEt
set_option linter.unusedVariables false
set_option linter.unusedSimpArgs false
namespace Go.Proofs.YtabofinagjdljaaE
open Go.ChangeShapes Go.WideShapes Go.ChangeAt Go.RowKit

theorem addr_add_block (a : Addr) (n : Nat) : (a.add n).block = a.block := by unfold Addr.add; split <;> rfl
def Tree (E : Env) (L : List PV) (cs : List Value) : Prop :=
  L.length = cs.length ∧ ∀ j, j < L.length → VR E (L.getD j .any) (cs.getD j undef) ∧ (cs.getD j undef).oneCell' = true

theorem Tree.one {E : Env} {p : PV} {v : Value} (h : VR E p v) (ho : v.oneCell' = true) : Tree E [p] [v] :=
  ⟨rfl, fun j hj => by
    have : j = 0 := by simpa using hj
    subst this
    exact ⟨h, ho⟩⟩

theorem Tree.app {E : Env} {A B : List PV} {va vb : List Value} (h : Tree E A va) (k : Tree E B vb) : Tree E (A ++ B) (va ++ vb) := by
  refine ⟨by simp [h.1, k.1], fun j hj => ?_⟩
  by_cases hlt : j < A.length
  · have := h.2 j hlt
    rw [List.getD_eq_getElem?_getD, List.getD_eq_getElem?_getD, List.getElem?_append_left hlt, List.getElem?_append_left (by rw [← h.1]; exact hlt), ← List.getD_eq_getElem?_getD, ← List.getD_eq_getElem?_getD]
    exact this
  · have := k.2 (j - A.length) (by simp at hj; omega)
    rw [List.getD_eq_getElem?_getD, List.getD_eq_getElem?_getD, List.getElem?_append_right (by omega), List.getElem?_append_right (by rw [← h.1]; omega), ← h.1, ← List.getD_eq_getElem?_getD, ← List.getD_eq_getElem?_getD]
    exact this

def tiles (P : Program) : List Field → Nat → Option Nat
  | [], o => some o
  | f :: r, o => if f.offset = o then tiles P r (o + P.cellsOf f.type) else none

def closedT (P : Program) (S : List TypeId) (t : TypeId) : Bool :=
  match P.underlying t with
  | some .bool | some (.int _) | some .string => true
  | some (.slice e) => S.contains e && decide (P.cellsOf e ≠ 0)
  | some (.struct fs) => fs.toList.all (fun f => S.contains f.type) && decide (tiles P fs.toList 0 = some (P.cellsOf t))
  | _ => false
def closedB (P : Program) (S : List TypeId) : Bool := S.all (closedT P S)

/-- What a tree of a type looks like. -/
def Shape (P : Program) : Nat → TypeId → List PV → Prop
  | 0, _, _ => False
  | n + 1, t, L => match P.underlying t with
    | some .bool => ∃ b, L = [.bool b]
    | some (.int k) => ∃ x, L = [.int k x] ∧ (Lit.int k x).wf = true
    | some .string => ∃ s : ByteArray, L = [.str s] ∧ s.size ≤ maxLen
    | some (.slice e) => L = [.nilS] ∨ ∃ len M, L = [.rd M len] ∧ M.length = len * P.cellsOf e ∧ len ≤ maxLen ∧ ∀ i, i < len → Shape P n e ((M.drop (i * P.cellsOf e)).take (P.cellsOf e))
    | some (.struct fs) => L.length = P.cellsOf t ∧ ∀ f ∈ fs.toList, Shape P n f.type ((L.drop f.offset).take (P.cellsOf f.type))
    | _ => False

section
variable {H : Type} {enc : TypeId × Value → H} {P : Program} {W : World}

theorem fields_tree {E : Env} {n : Nat} {cs : List Value} : ∀ (fs : List Field) (o tot : Nat), tiles P fs o = some tot → tot = cs.length → o ≤ cs.length →
    (∀ f ∈ fs, ∃ L, Tree E L ((cs.drop f.offset).take (P.cellsOf f.type)) ∧ Shape P n f.type L) →
    ∃ L, Tree E L (cs.drop o) ∧ ∀ f ∈ fs, o ≤ f.offset ∧ Shape P n f.type ((L.drop (f.offset - o)).take (P.cellsOf f.type))
  | [], o, tot, ht, he, ho, _ => by
    injection ht with ht
    refine ⟨[], ⟨by simp; omega, by simp⟩, by simp⟩
  | f :: r, o, tot, ht, he, ho, hf => by
    simp only [tiles] at ht
    split at ht
    · rename_i hfo
      have hle : ∀ (l : List Field) (a b : Nat), tiles P l a = some b → a ≤ b := by
        intro l
        induction l with
        | nil => intro a b h; injection h with h; omega
        | cons g l ih =>
          intro a b h
          simp only [tiles] at h
          split at h
          · have := ih _ _ h; omega
          · cases h
      have hb := hle _ _ _ ht
      obtain ⟨L2, h1, h2⟩ := fields_tree r (o + P.cellsOf f.type) tot ht he (by omega) (fun g hg => hf g (by simp [hg]))
      obtain ⟨L1, k1, k2⟩ := hf f (by simp)
      have hl1 : L1.length = P.cellsOf f.type := by rw [k1.1, List.length_take, List.length_drop, hfo]; omega
      refine ⟨L1 ++ L2, ?_, ?_⟩
      · have := k1.app h1
        rw [hfo] at this
        rwa [← List.drop_drop, List.take_append_drop] at this
      · intro g hg
        rcases List.mem_cons.1 hg with e | hg
        · subst e
          refine ⟨by omega, ?_⟩
          rw [hfo, Nat.sub_self, List.drop_zero, List.take_append_of_le_length (by omega), List.take_of_length_le (by omega)]
          exact k2
        · obtain ⟨a1, a2⟩ := h2 g hg
          refine ⟨by omega, ?_⟩
          rw [List.drop_append, List.drop_of_length_le (by omega), List.nil_append, show g.offset - o - L1.length = g.offset - (o + P.cellsOf f.type) by omega]
          exact a2
    · cases ht

theorem cells_at {w : World} {base : Nat} {a : Addr} : ∀ {n : Nat} {cs : List Value}, w.cells? base a n = some cs → cs.length = n ∧ ∀ j, j < n → w.cell? (a.add j) = some (cs.getD j undef) := by
  intro n cs h
  unfold World.cells? at h
  split at h
  · have hl := Go.mapM_some_length h
    simp at hl
    refine ⟨hl, fun j hj => ?_⟩
    have hg := Go.mapM_some_get h j j (by simp [hj])
    rw [hg, List.getD_eq_getElem?_getD, List.getElem?_eq_getElem (by omega), Option.getD_some]
  · cases h

theorem trod_tree {S : List TypeId} {sp : Nat → Bool} {held : Bool} (hS : closedB P S = true) : ∀ (fuel : Nat) (t : TypeId) (cs : List Value) (x : DataW H × List MemPlace), t ∈ S → DataW.trod enc P W 0 sp held fuel t cs = some x →
    ∃ L, Tree (lawEnv W).bare L cs ∧ Shape P fuel t L
  | 0, _, _, _, _, h => by simp [DataW.trod] at h
  | n + 1, t, cs, x, ht, h => by
    have hc := List.all_eq_true.1 hS t ht
    unfold closedT at hc
    unfold Shape
    split at hc
    · rename_i hu
      obtain ⟨b, rfl, _⟩ := DataW.trod_bool hu h
      exact ⟨[.bool b], .one (.bool _) rfl, b, rfl⟩
    · rename_i k hu
      obtain ⟨m, rfl, _, hw⟩ := DataW.trod_int hu h
      exact ⟨[.int k m], .one (.int _ _) rfl, m, rfl, hw⟩
    · rename_i hu
      obtain ⟨s, rfl, _, hw⟩ := DataW.trod_string hu h
      exact ⟨[.str s], .one (.str _) rfl, s, rfl, hw⟩
    · rename_i e hu
      simp only [Bool.and_eq_true, List.contains_eq_mem, decide_eq_true_eq] at hc
      obtain ⟨he, hne⟩ := hc
      rcases DataW.trod_slice hu h with ⟨rfl, _⟩ | ⟨a, len, cap, elems, rest, m, hm, rfl, _, _, h1, h2, h3, h4, _, _⟩
      · exact ⟨[.nilS], .one .nilS rfl, .inl rfl⟩
      · injection hm with hm; subst hm
        have key : ∀ k, k ≤ len → ∃ M : List PV, M.length = k * P.cellsOf e ∧ (∀ j, j < M.length → ∃ u, W.cell? (a.add j) = some u ∧ VR (lawEnv W).bare (M.getD j .any) u ∧ u.oneCell' = true) ∧ ∀ i, i < k → Shape P n e ((M.drop (i * P.cellsOf e)).take (P.cellsOf e)) := by
          intro k
          induction k with
          | zero => intro _; exact ⟨[], by simp, by simp, by simp⟩
          | succ k ih =>
            intro hk
            obtain ⟨M, m1, m2, m3⟩ := ih (by omega)
            have hel := h4 k (by omega)
            rw [List.getElem?_eq_getElem (by omega)] at hel
            obtain ⟨cs', c1, c2⟩ := Option.bind_eq_some_iff.1 hel
            obtain ⟨c3, c4⟩ := cells_at c1
            obtain ⟨L, l1, l2⟩ := trod_tree hS n e cs' _ he c2
            have hLl : L.length = P.cellsOf e := by rw [l1.1, c3]
            refine ⟨M ++ L, by rw [List.length_append, m1, hLl, Nat.succ_mul], fun j hj => ?_, fun i hi => ?_⟩
            · by_cases hlt : j < M.length
              · rw [List.getD_eq_getElem?_getD, List.getElem?_append_left hlt, ← List.getD_eq_getElem?_getD]
                exact m2 j hlt
              · rw [List.length_append] at hj
                rw [List.getD_eq_getElem?_getD, List.getElem?_append_right (by omega), ← List.getD_eq_getElem?_getD]
                obtain ⟨q1, q2⟩ := l1.2 (j - M.length) (by omega)
                refine ⟨_, ?_, q1, q2⟩
                rw [← c4 (j - M.length) (by omega)]
                congr 1
                rw [addr_add_add]
                congr 1
                omega
            · by_cases hlt : i < k
              · have hmul : i * P.cellsOf e + P.cellsOf e ≤ k * P.cellsOf e := by rw [← Nat.succ_mul]; exact Nat.mul_le_mul_right _ hlt
                rw [List.drop_append_of_le_length (by omega), List.take_append_of_le_length (by rw [List.length_drop]; omega)]
                exact m3 i hlt
              · have : i = k := by omega
                subst this
                rw [← m1, List.drop_left, List.take_of_length_le (by omega)]
                exact l2
        obtain ⟨M, m1, m2, m3⟩ := key len (Nat.le_refl _)
        refine ⟨[.rd M len], .one ?_ rfl, .inr ⟨len, M, rfl, m1, by omega, m3⟩⟩
        by_cases hz : M = []
        · subst hz; exact .rd0 _ _ _ h1
        · have hpos : 0 < M.length := List.length_pos_iff.2 hz
          refine .rd M len a cap (fun j => (W.cell? (a.add j)).getD undef) h1 ?_ (fun j hj => ?_) (fun j hj => ?_) (fun j hj => ?_)
          · obtain ⟨u, hu', _⟩ := m2 0 hpos
            have hlt : a.block < W.heap.size := by
              unfold World.cell? at hu'
              rw [addr_add_block] at hu'
              by_cases hb : a.block < W.heap.size
              · exact hb
              · rw [Array.getElem?_eq_none (by omega)] at hu'; simp at hu'
            exact ⟨hlt, .inl trivial, fun id blk o hb => by simp [stOf] at hb⟩
          · obtain ⟨u, hu', _⟩ := m2 j hj
            show W.cell? (a.add j) = _
            rw [hu']; rfl
          · obtain ⟨u, hu', hv, _⟩ := m2 j hj
            rw [hu']; exact hv
          · obtain ⟨u, hu', _, ho⟩ := m2 j hj
            rw [hu']; exact ho
    · rename_i fs hu
      simp only [Bool.and_eq_true, List.all_eq_true, List.contains_eq_mem, decide_eq_true_eq] at hc
      obtain ⟨hf, htl⟩ := hc
      obtain ⟨xs, m, hm, _, hlen, hxl, hx⟩ := DataW.trod_struct hu h
      injection hm with hm; subst hm
      obtain ⟨L, l1, l2⟩ := fields_tree (P := P) (E := (lawEnv W).bare) (n := n) (cs := cs) fs.toList 0 _ htl hlen.symm (by omega) (fun f hfm => by
        obtain ⟨i, hi, hie⟩ := List.getElem_of_mem hfm
        have := hx i f (by simpa [Array.getElem?_toList] using List.getElem?_eq_some_iff.2 ⟨hi, hie⟩)
        rw [List.getElem?_eq_getElem (by rw [hxl]; simpa using hi)] at this
        exact trod_tree hS n f.type _ _ (hf f hfm) this)
      rw [List.drop_zero] at l1
      refine ⟨L, l1, by rw [l1.1, hlen], fun f hfm => ?_⟩
      have := (l2 f hfm).2
      rwa [Nat.sub_zero] at this
    · cases hc

/-- An argument's tree: what it is, and that it stands for the argument. -/
theorem arg_tree {S : List TypeId} (hS : closedB P S = true) {sp : Nat → Bool} {held : Bool} {t : TypeId} (ht : t ∈ S) {v : Value} {d : DataW H} {ps : List MemPlace} (hv : v.oneCell' = true) (h : DataW.Trod enc P W 0 sp held t v d ps) :
    ∃ fuel p, VR (lawEnv W) p v ∧ Shape P fuel t [p] := by
  obtain ⟨fuel, h⟩ := h
  obtain ⟨L, h1, h2⟩ := trod_tree hS fuel t _ _ ht h
  have hc : v.cells.toList = [v] := by cases v <;> simp_all [Value.cells, Value.oneCell']
  rw [hc] at h1
  match L, h1.1 with
  | [p], _ => exact ⟨fuel, p, (h1.2 0 (by simp)).1.of_bare, h2⟩
end
end Go.Proofs.YtabofinagjdljaaE
