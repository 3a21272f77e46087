/- A call, by its contract. -/
import Derived.Test.YtabofinagjdljaaEn
set_option linter.unusedVariables false
set_option linter.unusedSimpArgs false
namespace Go.Proofs.YtabofinagjdljaaE
open Go.RowKit

/-- A function with a body of its own. -/
def FnOk (P : Program) (f : FuncId) : Prop := ∃ fn, P.funcs[f]? = some fn ∧ fn.body.isSome = true ∧ (fn.name == "runtime.NumGoroutine") = false

def nid (io : List Id) (d g j : Nat) : Id := (io[j]?).getD ⟨d, g, j⟩

def renI (io : List Id) (d g : Nat) (id : Id) : Id := nid io d g id.j

def renC (io : List Id) (d g : Nat) : PV → PV
  | .sl id ver off n sz => .sl (renI io d g id) ver off n sz
  | .pt id ver off => .pt (renI io d g id) ver off
  | p => p
def renA (io : List Id) (d g : Nat) : PV → PV
  | .agg l => .agg (l.map (renC io d g))
  | p => renC io d g p
def renP (io : List Id) (d g : Nat) : PV → PV
  | .tup l => .tup (l.map (renA io d g))
  | p => renA io d g p

def renB (io : List Id) (d g : Nat) (b : Blk) : Blk := if b.flat = true then b else { b with cells := b.cells.map (renC io d g) }

def newL (io : List Id) (d g : Nat) : List Blk → Nat → List (Id × Blk)
  | [], _ => []
  | b :: r, j => (nid io d g j, renB io d g b) :: newL io d g r (j + 1)

/-- Does a value lead nowhere? -/
def scalarB : PV → Bool
  | .any | .nilP | .nilI | .nilF | .int _ _ | .bool _ | .str _ => true
  | _ => false
def scalarA : PV → Bool
  | .agg l => l.all scalarB
  | p => scalarB p
def scalarP : PV → Bool
  | .tup l => l.all scalarA
  | p => scalarA p

/-- How deep a value told by a contract may go: a tuple of structs of cells. -/
def cellB : PV → Bool
  | .agg _ | .tup _ => false
  | .fn _ [] [] => true
  | .fn _ _ _ => false
  | _ => true
def cellA : PV → Bool
  | .agg l => l.all cellB
  | p => cellB p
def cellP : PV → Bool
  | .tup l => l.all cellA
  | p => cellA p

structure RenEnv (E E' : Env) (io : List Id) (d g : Nat) : Prop where
  w : E'.w = E.w
  D : ∀ g, E.D g → E'.D g
  st : ∀ id blk, E.σ id = some blk → ∃ blk', E'.σ (renI io d g id) = some blk' ∧ blk'.ver = blk.ver ∧ E'.β (renI io d g id) = E.β id

theorem RenEnv.bare {E E' : Env} {io : List Id} {d g : Nat} (X : RenEnv E E' io d g) : E.bare.Le E'.bare :=
  ⟨X.D, fun g _ => by simp [Env.bare, X.w], fun g N h => by simpa [Env.bare, X.w] using h, fun id blk h => by simp [Env.bare] at h⟩

section
variable {E E' : Env} {io : List Id} {d g : Nat}

theorem renC_VR (X : RenEnv E E' io d g) {p : PV} {v : Value} (hc : cellB p = true) (h : VR E p v) : VR E' (renC io d g p) v := by
  cases p with
  | any => exact .any _
  | nilS => rw [h.nilS_inv]; exact .nilS
  | nilP => rw [h.nilP_inv]; exact .nilP
  | nilI => rw [h.nilI_inv]; exact .nilI
  | nilF => rw [h.nilF_inv]; exact .nilF
  | int k n => rw [h.int_inv]; exact .int _ _
  | bool b => rw [h.bool_inv]; exact .bool _
  | str s => rw [h.str_inv]; exact .str _
  | agg l => simp [cellB] at hc
  | tup l => simp [cellB] at hc
  | rd l n => exact (h.rd_bare.mono X.bare).of_bare
  | rp l => exact (h.rp_bare.mono X.bare).of_bare
  | sl id ver off n sz =>
    obtain ⟨blk, hb, hle⟩ := h.sl_dom
    obtain ⟨blk', b1, b2, b3⟩ := X.st id blk hb
    refine .sl _ _ _ _ _ _ blk' b1 (by omega) (fun e => ?_) (h.leaf_one rfl)
    rw [b3, X.w]
    exact h.sl_inv hb (by omega)
  | pt id ver off =>
    obtain ⟨blk, hb, hle⟩ := h.pt_dom
    obtain ⟨blk', b1, b2, b3⟩ := X.st id blk hb
    refine .pt _ _ _ _ blk' b1 (by omega) (fun e => ?_) (h.leaf_one rfl)
    rw [b3]
    exact h.pt_inv hb (by omega)
  | fn f fs cs =>
    cases fs with
    | cons a l => simp [cellB] at hc
    | nil => cases cs with
      | cons a l => simp [cellB] at hc
      | nil => cases h with | fn f fs cs va vb h1 h2 h3 h4 => exact .fn _ _ _ _ _ h1 h2 (by simp) (by simp)

theorem getD_map {f : PV → PV} (l : List PV) (j : Nat) (h : j < l.length) : (l.map f).getD j .any = f (l.getD j .any) := by simp [List.getD, h]

theorem all_getD {f : PV → Bool} {l : List PV} (h : l.all f = true) {j : Nat} (hj : j < l.length) : f (l.getD j .any) = true := by
  have := List.all_eq_true.1 h (l.getD j .any) (by simp only [List.getD, List.getElem?_eq_getElem hj, Option.getD_some]; exact List.getElem_mem hj)
  exact this

theorem renA_VR (X : RenEnv E E' io d g) {p : PV} {v : Value} (hc : cellA p = true) (h : VR E p v) : VR E' (renA io d g p) v := by
  unfold cellA at hc
  split at hc
  · rename_i l
    obtain ⟨cs, rfl, h1, h2, h3⟩ := h.agg_inv
    refine .agg _ _ (by simp [h1]) (fun j hj => ?_) fun j hj => h3 j (by simpa using hj)
    simp at hj
    rw [getD_map _ _ hj]
    exact renC_VR X (all_getD hc hj) (h2 j hj)
  · rename_i hne
    unfold renA
    split
    · rename_i l; exact absurd rfl (hne l)
    · exact renC_VR X hc h

theorem renP_VR (X : RenEnv E E' io d g) {p : PV} {v : Value} (hc : cellP p = true) (h : VR E p v) : VR E' (renP io d g p) v := by
  unfold cellP at hc
  split at hc
  · rename_i l
    obtain ⟨cs, rfl, h1, h2⟩ := h.tup_inv
    refine .tup _ _ (by simp [h1]) (fun j hj => ?_)
    simp at hj
    rw [getD_map _ _ hj]
    exact renA_VR X (all_getD hc hj) (h2 j hj)
  · rename_i hne
    unfold renP
    split
    · rename_i l; exact absurd rfl (hne l)
    · exact renA_VR X hc h

theorem scalarB_VR {p : PV} {v : Value} (hc : scalarB p = true) (h : VR E p v) : VR E' (renC io d g p) v := by
  cases p with
  | any => exact .any _
  | nilP => rw [h.nilP_inv]; exact .nilP
  | nilI => rw [h.nilI_inv]; exact .nilI
  | nilF => rw [h.nilF_inv]; exact .nilF
  | int k n => rw [h.int_inv]; exact .int _ _
  | bool b => rw [h.bool_inv]; exact .bool _
  | str s => rw [h.str_inv]; exact .str _
  | _ => simp [scalarB] at hc

theorem scalarA_VR {p : PV} {v : Value} (hc : scalarA p = true) (h : VR E p v) : VR E' (renA io d g p) v := by
  unfold scalarA at hc
  split at hc
  · rename_i l
    obtain ⟨cs, rfl, h1, h2, h3⟩ := h.agg_inv
    refine .agg _ _ (by simp [h1]) (fun j hj => ?_) fun j hj => h3 j (by simpa using hj)
    simp at hj
    rw [getD_map _ _ hj]
    exact scalarB_VR (all_getD hc hj) (h2 j hj)
  · rename_i hne
    unfold renA
    split
    · rename_i l; exact absurd rfl (hne l)
    · exact scalarB_VR hc h

theorem scalarP_VR {p : PV} {v : Value} (hc : scalarP p = true) (h : VR E p v) : VR E' (renP io d g p) v := by
  unfold scalarP at hc
  split at hc
  · rename_i l
    obtain ⟨cs, rfl, h1, h2⟩ := h.tup_inv
    refine .tup _ _ (by simp [h1]) (fun j hj => ?_)
    simp at hj
    rw [getD_map _ _ hj]
    exact scalarA_VR (all_getD hc hj) (h2 j hj)
  · rename_i hne
    unfold renP
    split
    · rename_i l; exact absurd rfl (hne l)
    · exact scalarA_VR hc h
end

theorem newL_find {io : List Id} {d g : Nat} {σ : Id → Option Blk} {l : List (Id × Blk)} : ∀ (rb : List Blk) (k : Nat) (id : Id),
    (∃ j b, rb[j]? = some b ∧ id = nid io d g (k + j) ∧ wrs σ (newL io d g rb k ++ l) id = some (renB io d g b)) ∨ ((∀ j, j < rb.length → id ≠ nid io d g (k + j)) ∧ wrs σ (newL io d g rb k ++ l) id = wrs σ l id)
  | [], k, id => .inr ⟨by simp, rfl⟩
  | b :: rb, k, id => by
    have hw : wrs σ (newL io d g (b :: rb) k ++ l) = updI (wrs σ (newL io d g rb (k + 1) ++ l)) (nid io d g k) (some (renB io d g b)) := rfl
    rw [hw]
    by_cases e : id = nid io d g k
    · subst e
      exact .inl ⟨0, b, by simp, by simp, by simp⟩
    · rw [updI_other _ _ _ _ e]
      rcases newL_find rb (k + 1) id with ⟨j, b', h1, h2, h3⟩ | ⟨h1, h2⟩
      · exact .inl ⟨j + 1, b', by simpa using h1, by rw [h2]; congr 1; omega, h3⟩
      · refine .inr ⟨fun j hj => ?_, h2⟩
        cases j with
        | zero => simpa using e
        | succ j => have := h1 j (by simpa using hj); rwa [show k + 1 + j = k + (j + 1) by omega] at this

end Go.Proofs.YtabofinagjdljaaE
