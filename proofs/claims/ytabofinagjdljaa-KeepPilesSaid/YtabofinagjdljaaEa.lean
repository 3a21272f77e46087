/- The abstract states of the engine: values as trees, blocks of the call's own, and how they stand to the machine's worlds. -/
import Derived.Below
import Derived.Orders
import Derived.Laws.CopyRow
import Derived.Laws.Rows
import Derived.Laws.AppendOwn
import Derived.Laws.MakeOwn
import Derived.Tactics
set_option linter.unusedVariables false
set_option linter.unusedSimpArgs false
namespace Go.Proofs.YtabofinagjdljaaE
open Go.RowKit

/-- A block of the call's own: by the slot that made it, the how manieth there, which of several. -/
structure Id where
  d : Nat
  g : Nat
  j : Nat
deriving DecidableEq

inductive PV where
  | any | nilS | nilP | nilI | nilF
  | int (k : IntKind) (n : Int)
  | bool (b : Bool)
  | str (s : ByteArray)
  | agg (l : List PV)
  | tup (l : List PV)
  | rd (l : List PV) (n : Nat)
  | rp (l : List PV)
  | sl (id : Id) (ver off n sz : Nat)
  | pt (id : Id) (ver off : Nat)
  | fn (f : FuncId) (first captured : List PV)

structure Blk where
  ver : Nat
  own : Bool
  flat : Bool
  cells : List PV

structure Env where
  w : World
  D : Nat → Prop
  β : Id → Option (Nat × Nat)
  σ : Id → Option Blk

def Room (w : World) (g N : Nat) : Prop := ∃ c e fz, w.heap[g]? = some (.cells c e fz) ∧ N ≤ c.size

def SlAt (w : World) (b : Option (Nat × Nat)) (off n sz : Nat) (v : Value) : Prop :=
  match b with
  | none => v = .slice none 0 0 ∧ n = 0
  | some (g, o) => ∃ cap, v = .slice (some ⟨g, o + off, none⟩) n cap ∧ n ≤ cap ∧ cap ≤ maxLen ∧ Room w g (o + off + cap * sz)

def PtAt (b : Option (Nat × Nat)) (off : Nat) (v : Value) : Prop :=
  ∃ g o, b = some (g, o) ∧ v = .pointer (some ⟨g, o + off, none⟩)

/-- The environment of cells that lead to no block of the call's own. -/
def Env.bare (E : Env) : Env := { E with σ := fun _ => none }

inductive VR : Env → PV → Value → Prop
  | any {E : Env} (v : Value) : VR E .any v
  | nilS {E : Env} : VR E .nilS (.slice none 0 0)
  | nilP {E : Env} : VR E .nilP (.pointer none)
  | nilI {E : Env} : VR E .nilI .nilIface
  | nilF {E : Env} : VR E .nilF .nilFunc
  | int {E : Env} (k : IntKind) (n : Int) : VR E (.int k n) (.int k n)
  | bool {E : Env} (b : Bool) : VR E (.bool b) (.bool b)
  | str {E : Env} (s : ByteArray) : VR E (.str s) (.string s)
  | agg {E : Env} (l : List PV) (cs : Array Value) : cs.size = l.length → (∀ j, j < l.length → VR E (l.getD j .any) (cs.getD j undef)) → (∀ j, j < l.length → (cs.getD j undef).oneCell' = true) → VR E (.agg l) (.agg cs)
  | tup {E : Env} (l : List PV) (cs : Array Value) : cs.size = l.length → (∀ j, j < l.length → VR E (l.getD j .any) (cs.getD j undef)) → VR E (.tup l) (.tuple cs)
  | rd0 {E : Env} (n : Nat) (A : Option Addr) (c : Nat) : n ≤ c → VR E (.rd [] n) (.slice A n c)
  | rd {E : Env} (l : List PV) (n : Nat) (a : Addr) (c : Nat) (us : Nat → Value) : n ≤ c → E.D a.block →
      (∀ j, j < l.length → E.w.cell? (a.add j) = some (us j)) → (∀ j, j < l.length → VR E.bare (l.getD j .any) (us j)) → (∀ j, j < l.length → (us j).oneCell' = true) → VR E (.rd l n) (.slice (some a) n c)
  | rp {E : Env} (l : List PV) (a : Addr) (us : Nat → Value) : E.D a.block →
      (∀ j, j < l.length → E.w.cell? (a.add j) = some (us j)) → (∀ j, j < l.length → VR E.bare (l.getD j .any) (us j)) → (∀ j, j < l.length → (us j).oneCell' = true) → VR E (.rp l) (.pointer (some a))
  | sl {E : Env} (id : Id) (ver off n sz : Nat) (v : Value) (blk : Blk) : E.σ id = some blk → ver ≤ blk.ver → (blk.ver = ver → SlAt E.w (E.β id) off n sz v) → v.oneCell' = true → VR E (.sl id ver off n sz) v
  | pt {E : Env} (id : Id) (ver off : Nat) (v : Value) (blk : Blk) : E.σ id = some blk → ver ≤ blk.ver → (blk.ver = ver → PtAt (E.β id) off v) → v.oneCell' = true → VR E (.pt id ver off) v
  | fn {E : Env} (f : FuncId) (fs cs : List PV) (va vb : Array Value) : va.size = fs.length → vb.size = cs.length → (∀ j, j < fs.length → VR E (fs.getD j .any) (va.getD j undef)) →
      (∀ j, j < cs.length → VR E (cs.getD j .any) (vb.getD j undef)) → VR E (.fn f fs cs) (.func (.func f) va vb)

structure Env.Le (E E' : Env) : Prop where
  D : ∀ g, E.D g → E'.D g
  heap : ∀ g, E.D g → E'.w.heap[g]? = E.w.heap[g]?
  room : ∀ g N, Room E.w g N → Room E'.w g N
  st : ∀ id blk, E.σ id = some blk → ∃ blk', E'.σ id = some blk' ∧ blk.ver ≤ blk'.ver ∧ (blk'.ver = blk.ver → E'.β id = E.β id)

theorem cell?_congr {w w' : World} {a : Addr} (h : w'.heap[a.block]? = w.heap[a.block]?) : w'.cell? a = w.cell? a := by simp [World.cell?, h]
theorem add_block (a : Addr) (j : Nat) : (a.add j).block = a.block := by unfold Addr.add; split <;> rfl
theorem add_lit (g o j : Nat) : (⟨g, o, none⟩ : Addr).add j = ⟨g, o + j, none⟩ := by unfold Addr.add; split <;> simp_all

theorem SlAt.mono {w w' : World} {b : Option (Nat × Nat)} {off n sz : Nat} {v : Value} (h : SlAt w b off n sz v) (hr : ∀ g N, Room w g N → Room w' g N) : SlAt w' b off n sz v := by
  unfold SlAt at *
  split at h
  · exact h
  · obtain ⟨cap, h1, h2, h3, h4⟩ := h
    exact ⟨cap, h1, h2, h3, hr _ _ h4⟩

theorem Env.Le.bare {E E' : Env} (L : E.Le E') : E.bare.Le E'.bare := ⟨L.D, L.heap, L.room, fun id blk h => by simp [Env.bare] at h⟩
theorem VR.mono' {E : Env} {p : PV} {v : Value} (h : VR E p v) : ∀ {E' : Env}, E.Le E' → VR E' p v := by
  induction h with
  | any v => intro E' L; exact .any v
  | nilS => intro E' L; exact .nilS
  | nilP => intro E' L; exact .nilP
  | nilI => intro E' L; exact .nilI
  | nilF => intro E' L; exact .nilF
  | int k n => intro E' L; exact .int k n
  | bool b => intro E' L; exact .bool b
  | str s => intro E' L; exact .str s
  | agg l cs hs h h1 ih => intro E' L; exact .agg l cs hs (fun j hj => ih j hj L) h1
  | tup l cs hs h ih => intro E' L; exact .tup l cs hs fun j hj => ih j hj L
  | rd0 n A c hn => intro E' L; exact .rd0 n A c hn
  | rd l n a c us hn hD hc h h1 ih => intro E' L; exact .rd l n a c us hn (L.D _ hD) (fun j hj => (cell?_congr (a := a.add j) (by rw [add_block]; exact L.heap _ hD)).trans (hc j hj)) (fun j hj => ih j hj L.bare) h1
  | rp l a us hD hc h h1 ih => intro E' L; exact .rp l a us (L.D _ hD) (fun j hj => (cell?_congr (a := a.add j) (by rw [add_block]; exact L.heap _ hD)).trans (hc j hj)) (fun j hj => ih j hj L.bare) h1
  | sl id ver off n sz v blk hb hv h h1 =>
    intro E' L
    obtain ⟨blk', hb', hle, hβ⟩ := L.st id blk hb
    refine .sl id ver off n sz v blk' hb' (by omega) (fun he => ?_) h1
    have e1 : blk.ver = ver := by omega
    have e2 : blk'.ver = blk.ver := by omega
    rw [hβ e2]
    exact (h e1).mono L.room
  | pt id ver off v blk hb hv h h1 =>
    intro E' L
    obtain ⟨blk', hb', hle, hβ⟩ := L.st id blk hb
    refine .pt id ver off v blk' hb' (by omega) (fun he => ?_) h1
    have e1 : blk.ver = ver := by omega
    have e2 : blk'.ver = blk.ver := by omega
    rw [hβ e2]
    exact h e1
  | fn f fs cs va vb h1 h2 h3 h4 ih1 ih2 => intro E' L; exact .fn f fs cs va vb h1 h2 (fun j hj => ih1 j hj L) (fun j hj => ih2 j hj L)

theorem VR.mono {E E' : Env} (L : E.Le E') {p : PV} {v : Value} (h : VR E p v) : VR E' p v := h.mono' L

theorem Env.Le.refl (E : Env) : E.Le E := ⟨fun _ h => h, fun _ _ => rfl, fun _ _ h => h, fun id blk h => ⟨blk, h, Nat.le_refl _, fun _ => rfl⟩⟩

theorem VR.of_bare {E : Env} {p : PV} {v : Value} (h : VR E.bare p v) : VR E p v :=
  VR.mono (E := E.bare) (E' := E) ⟨fun _ h => h, fun _ _ => rfl, fun _ _ h => h, fun id blk h => by simp [Env.bare] at h⟩ h

structure Keeps (B : Nat) (I : Nat → Prop) (w w' : World) : Prop where
  os : w'.os = w.os
  tape : w'.tape = w.tape
  output : w'.output = w.output
  size : w.heap.size ≤ w'.heap.size
  block : ∀ k, k < B → ¬ I k → w'.heap[k]? = w.heap[k]?
  room : ∀ g N, Room w g N → Room w' g N

theorem Keeps.refl (B : Nat) (I : Nat → Prop) (w : World) : Keeps B I w w := ⟨rfl, rfl, rfl, Nat.le_refl _, fun _ _ _ => rfl, fun _ _ h => h⟩
theorem Keeps.trans {B : Nat} {I : Nat → Prop} {a b c : World} (h : Keeps B I a b) (k : Keeps B I b c) : Keeps B I a c :=
  ⟨k.os.trans h.os, k.tape.trans h.tape, k.output.trans h.output, Nat.le_trans h.size k.size, fun i hi hn => (k.block i hi hn).trans (h.block i hi hn), fun g N hr => k.room g N (h.room g N hr)⟩
theorem Keeps.below {B : Nat} {w w' : World} (h : Keeps B (fun _ => False) w w') : Below B w w' := ⟨h.os, h.tape, h.output, h.size, fun k hk => h.block k hk (fun h => h)⟩

def BlkRel (E : Env) (B : Nat) (I : Id → Nat → Prop) (id : Id) (blk : Blk) : Prop :=
  match E.β id with
  | none => blk.cells = []
  | some (g, o) => (B ≤ g ∨ (id.d = 0 ∧ id.g = 0 ∧ I id g)) ∧ ∃ c e fz, E.w.heap[g]? = some (.cells c e fz) ∧ (blk.own = true → fz = (0, 0)) ∧ o + blk.cells.length ≤ c.size ∧
      ∀ j, j < blk.cells.length → VR (if blk.flat then E.bare else E) (blk.cells.getD j .any) (c.getD (o + j) undef) ∧ (c.getD (o + j) undef).oneCell' = true

theorem BlkRel.mono {E E' : Env} (L : E.Le E') {B : Nat} {I : Id → Nat → Prop} {id : Id} {blk : Blk} (h : BlkRel E B I id blk) (hβ : E'.β id = E.β id)
    (hh : ∀ g o, E.β id = some (g, o) → E'.w.heap[g]? = E.w.heap[g]?) : BlkRel E' B I id blk := by
  unfold BlkRel at *
  rw [hβ]
  cases hb : E.β id with
  | none => rw [hb] at h; exact h
  | some go =>
    obtain ⟨g, o⟩ := go
    rw [hb] at h
    obtain ⟨h0, c, e, fz, h1, h2, h3, h4⟩ := h
    refine ⟨h0, c, e, fz, (hh g o hb).trans h1, h2, h3, fun j hj => ⟨?_, (h4 j hj).2⟩⟩
    have h5 := (h4 j hj).1
    split
    · rename_i hf; rw [if_pos hf] at h5; exact h5.mono L.bare
    · rename_i hf; rw [if_neg hf] at h5; exact h5.mono L

structure St where
  frame : Nat → PV
  store : Id → Option Blk
  gens : Nat → Nat

structure Ctx where
  w0 : World
  I : Id → Nat → Prop
  D0 : Nat → Prop
  nt : Nat
  β0 : Id → Option (Nat × Nat)
  v0 : Id → Option Nat

/-- The blocks that were handed over to be written. -/
def Ctx.IS (c : Ctx) (g : Nat) : Prop := ∃ id : Id, c.I id g

def env (c : Ctx) (β : Id → Option (Nat × Nat)) (σ : Id → Option Blk) (w : World) : Env :=
  ⟨w, fun g => g < w.heap.size ∧ (c.D0 g ∨ c.w0.heap.size ≤ g) ∧ ∀ id blk o, σ id = some blk → blk.own = true → β id ≠ some (g, o), β, σ⟩

structure RelB (c : Ctx) (β : Id → Option (Nat × Nat)) (s : St) (a : Act) (w : World) : Prop where
  keeps : Keeps c.w0.heap.size c.IS c.w0 w
  nt : a.tmps.size = c.nt
  defers : a.defers = []
  frame : ∀ t, VR (env c β s.store w) (s.frame t) (a.tmps.getD t undef)
  blocks : ∀ id blk, s.store id = some blk → BlkRel (env c β s.store w) c.w0.heap.size c.I id blk
  inj : ∀ id id' blk blk' g o o', s.store id = some blk → s.store id' = some blk' → blk.own = true → β id = some (g, o) → β id' = some (g, o') → id = id'
  gens : ∀ id blk, s.store id = some blk → id.g < s.gens id.d
  io : ∀ id n, c.v0 id = some n → ∃ blk, s.store id = some blk ∧ n ≤ blk.ver ∧ (blk.ver = n → β id = c.β0 id)

def Rel (c : Ctx) (s : St) (a : Act) (w : World) : Prop := ∃ β, RelB c β s a w

def upd {α : Type} (f : Nat → α) (d : Nat) (x : α) : Nat → α := fun t => if t = d then x else f t
def updI {α : Type} (f : Id → α) (d : Id) (x : α) : Id → α := fun t => if t = d then x else f t

@[simp] theorem upd_same {α : Type} (f : Nat → α) (d : Nat) (x : α) : upd f d x d = x := by simp [upd]
theorem upd_other {α : Type} (f : Nat → α) (d t : Nat) (x : α) (h : t ≠ d) : upd f d x t = f t := by simp [upd, h]
@[simp] theorem updI_same {α : Type} (f : Id → α) (d : Id) (x : α) : updI f d x d = x := by simp [updI]
theorem updI_other {α : Type} (f : Id → α) (d t : Id) (x : α) (h : t ≠ d) : updI f d x t = f t := by simp [updI, h]

def St.put (s : St) (d : Option Nat) (p : PV) : St :=
  match d with
  | some d => { s with frame := upd s.frame d p }
  | none => s

theorem getD_setIfInBounds (xs : Array Value) (i j : Nat) (v u : Value) (hi : i < xs.size) : (xs.setIfInBounds i v).getD j u = if j = i then v else xs.getD j u := by
  rw [Array.getD_eq_getD_getElem?, Array.getD_eq_getD_getElem?, Array.getElem?_setIfInBounds]
  by_cases h : j = i
  · subst h; simp [hi]
  · have : ¬ i = j := fun e => h e.symm
    simp [h, this]

theorem RelB.put {c : Ctx} {β : Id → Option (Nat × Nat)} {s : St} {a : Act} {w : World} (h : RelB c β s a w) (d : Option Nat) (p : PV) (v : Value)
    (hd : ∀ t, d = some t → t < c.nt) (hv : ∀ t, d = some t → VR (env c β s.store w) p v) : RelB c β (s.put d p) (a.put d v) w := by
  cases d with
  | none => exact h
  | some t =>
    refine ⟨h.keeps, by simpa [Act.put] using h.nt, h.defers, fun u => ?_, h.blocks, h.inj, h.gens, h.io⟩
    have ht := hd t rfl
    simp only [St.put, Act.put]
    rw [getD_setIfInBounds _ _ _ _ _ (by rw [h.nt]; exact ht)]
    by_cases e : u = t
    · subst e; simpa using hv u rfl
    · rw [if_neg e, upd_other _ _ _ _ e]; exact h.frame u

/-- The world has turned, and what is kept of it too: all that hangs on it follows. -/
theorem RelB.turn {c : Ctx} {β β' : Id → Option (Nat × Nat)} {s : St} {a : Act} {w w' : World} (h : RelB c β s a w) (σ' : Id → Option Blk) (gens' : Nat → Nat)
    (hk : Keeps c.w0.heap.size c.IS w w') (L : (env c β s.store w).Le (env c β' σ' w'))
    (hb : ∀ id blk, σ' id = some blk → BlkRel (env c β' σ' w') c.w0.heap.size c.I id blk)
    (hi : ∀ id id' blk blk' g o o', σ' id = some blk → σ' id' = some blk' → blk.own = true → β' id = some (g, o) → β' id' = some (g, o') → id = id')
    (hg : ∀ id blk, σ' id = some blk → id.g < gens' id.d) : RelB c β' { s with store := σ', gens := gens' } a w' :=
  ⟨h.keeps.trans hk, h.nt, h.defers, fun t => (h.frame t).mono L, hb, hi, hg, fun id n hn => by
    obtain ⟨blk, h1, h2, h3⟩ := h.io id n hn
    obtain ⟨blk', k1, k2, k3⟩ := L.st id blk h1
    refine ⟨blk', k1, by omega, fun e => ?_⟩
    have e1 : blk.ver = n := by omega
    have := k3 (by omega)
    exact this.trans (h3 e1)⟩

theorem BlkRel.lt {E : Env} {B : Nat} {I : Id → Nat → Prop} {id : Id} {blk : Blk} (h : BlkRel E B I id blk) {g o : Nat} (hb : E.β id = some (g, o)) : g < E.w.heap.size := by
  unfold BlkRel at h
  rw [hb] at h
  obtain ⟨_, c, e, fz, h1, _⟩ := h
  exact (Array.getElem?_eq_some_iff.1 h1).1

/-- One block is written, or made: all else stays. -/
theorem RelB.write {c : Ctx} {β : Id → Option (Nat × Nat)} {s : St} {a : Act} {w w' : World} (h : RelB c β s a w) (x : Id) (blk' : Blk) (gx ox : Nat) (gens' : Nat → Nat)
    (hk : Keeps c.w0.heap.size c.IS w w') (hh : ∀ k, k ≠ gx → k < w.heap.size → w'.heap[k]? = w.heap[k]?)
    (hx : w.heap.size ≤ gx ∨ ∃ blk o, s.store x = some blk ∧ blk.own = true ∧ β x = some (gx, o))
    (hv : ∀ blk, s.store x = some blk → blk.ver ≤ blk'.ver ∧ (blk'.ver = blk.ver → β x = some (gx, ox)))
    (hn : (env c β s.store w).Le (env c (updI β x (some (gx, ox))) (updI s.store x (some blk')) w') → BlkRel (env c (updI β x (some (gx, ox))) (updI s.store x (some blk')) w') c.w0.heap.size c.I x blk')
    (hg : ∀ id blk, s.store id = some blk → id.g < gens' id.d) (hgx : x.g < gens' x.d) :
    RelB c (updI β x (some (gx, ox))) { s with store := updI s.store x (some blk'), gens := gens' } a w' := by
  have hne : ∀ id blk g o, s.store id = some blk → id ≠ x → β id = some (g, o) → g ≠ gx := by
    intro id blk g o hs hne hb e
    subst e
    rcases hx with hx | ⟨blkx, o', h1, h2, h3⟩
    · have := (h.blocks id blk hs).lt hb
      exact absurd (show g < w.heap.size from this) (by omega)
    · exact hne (h.inj x id blkx blk g o' o h1 hs h2 h3 hb).symm
  have L : (env c β s.store w).Le (env c (updI β x (some (gx, ox))) (updI s.store x (some blk')) w') := by
    have hDx : ∀ g, (env c β s.store w).D g → g ≠ gx := by
      rintro g ⟨h1, h2, h3⟩ e
      subst e
      rcases hx with hx | ⟨blkx, o', k1, k2, k3⟩
      · omega
      · exact h3 x blkx o' k1 k2 k3
    refine ⟨?_, ?_, hk.room, ?_⟩
    · rintro g hD
      have hgx' := hDx g hD
      obtain ⟨h1, h2, h3⟩ := hD
      refine ⟨Nat.lt_of_lt_of_le h1 hk.size, h2, fun id blk o hs ho hb => ?_⟩
      by_cases e : id = x
      · subst e; simp [updI] at hb; exact hgx' hb.1.symm
      · dsimp only [env] at *
        rw [updI_other _ _ _ _ e] at hs hb
        exact h3 id blk o hs ho hb
    · intro g hD
      exact hh g (hDx g hD) hD.1
    · intro id blk hs
      by_cases e : id = x
      · subst e
        exact ⟨blk', by simp [env], (hv blk hs).1, fun e => by simp [env, (hv blk hs).2 e]⟩
      · exact ⟨blk, by simp only [env]; rw [updI_other _ _ _ _ e]; exact hs, Nat.le_refl _, fun _ => by simp only [env]; rw [updI_other _ _ _ _ e]⟩
  refine h.turn (updI s.store x (some blk')) gens' hk L ?_ ?_ ?_
  · intro id blk hs
    by_cases e : id = x
    · subst e
      simp at hs
      subst hs
      exact hn L
    · rw [updI_other _ _ _ _ e] at hs
      have hb := h.blocks id blk hs
      refine hb.mono L (by simp only [env]; rw [updI_other _ _ _ _ e]) fun g o hb' => ?_
      exact hh g (hne id blk g o hs e hb') (hb.lt hb')
  · intro id id' blk blk2 g o o' hs hs' ho hb hb'
    by_cases e : id = x <;> by_cases e' : id' = x
    · rw [e, e']
    · subst e
      rw [updI_other _ _ _ _ e'] at hs' hb'
      simp at hb
      exact absurd hb.1.symm (hne id' blk2 g o' hs' e' hb')
    · subst e'
      rw [updI_other _ _ _ _ e] at hs hb
      simp at hb'
      exact absurd hb'.1.symm (hne id blk g o hs e hb)
    · rw [updI_other _ _ _ _ e'] at hs' hb'
      rw [updI_other _ _ _ _ e] at hs hb
      exact h.inj id id' blk blk2 g o o' hs hs' ho hb hb'
  · intro id blk hs
    by_cases e : id = x
    · subst e; exact hgx
    · rw [updI_other _ _ _ _ e] at hs
      exact hg id blk hs

/-- A block is no longer written. -/
theorem RelB.freeze {c : Ctx} {β : Id → Option (Nat × Nat)} {s : St} {a : Act} {w : World} (h : RelB c β s a w) (x : Id) (blk : Blk) (hx : s.store x = some blk) :
    RelB c β { s with store := updI s.store x (some { blk with own := false }) } a w := by
  have L : (env c β s.store w).Le (env c β (updI s.store x (some { blk with own := false })) w) := by
    refine ⟨?_, fun _ _ => rfl, fun _ _ h => h, ?_⟩
    · rintro g ⟨h1, h2, h3⟩
      refine ⟨h1, h2, fun id blk' o hs ho hb => ?_⟩
      by_cases e : id = x
      · subst e; simp at hs; subst hs; simp at ho
      · rw [updI_other _ _ _ _ e] at hs
        exact h3 id blk' o hs ho hb
    · intro id blk' hs
      by_cases e : id = x
      · subst e
        simp only [env] at hs
        rw [hx] at hs
        injection hs with hs
        subst hs
        exact ⟨{ blk with own := false }, by simp [env], Nat.le_refl _, fun _ => rfl⟩
      · exact ⟨blk', by simp only [env]; rw [updI_other _ _ _ _ e]; exact hs, Nat.le_refl _, fun _ => rfl⟩
  refine h.turn _ s.gens (Keeps.refl _ _ _) L ?_ ?_ ?_
  · intro id blk' hs
    by_cases e : id = x
    · subst e
      simp at hs
      subst hs
      have hb := (h.blocks id blk hx).mono L rfl (fun _ _ _ => rfl)
      unfold BlkRel at hb ⊢
      split at hb <;> rename_i hβ
      · simp only [hβ]; exact hb
      · simp only [hβ]
        obtain ⟨h0, cc, e, fz, h1, h2, h3, h4⟩ := hb
        exact ⟨h0, cc, e, fz, h1, by simp, h3, h4⟩
    · rw [updI_other _ _ _ _ e] at hs
      exact (h.blocks id blk' hs).mono L rfl (fun _ _ _ => rfl)
  · intro id id' blk1 blk2 g o o' hs hs' ho hb hb'
    by_cases e : id = x
    · subst e; simp at hs; subst hs; simp at ho
    · rw [updI_other _ _ _ _ e] at hs
      by_cases e' : id' = x
      · subst e'
        exact h.inj id id' blk1 blk g o o' hs hx ho hb hb'
      · rw [updI_other _ _ _ _ e'] at hs'
        exact h.inj id id' blk1 blk2 g o o' hs hs' ho hb hb'
  · intro id blk' hs
    by_cases e : id = x
    · subst e; exact h.gens id blk hx
    · rw [updI_other _ _ _ _ e] at hs
      exact h.gens id blk' hs

theorem Room.of_heap {w w' : World} {g N : Nat} (h : Room w g N) (e : w'.heap[g]? = w.heap[g]?) : Room w' g N := by
  obtain ⟨c, t, fz, h1, h2⟩ := h
  exact ⟨c, t, fz, e.trans h1, h2⟩
theorem Room.lt {w : World} {g N : Nat} (h : Room w g N) : g < w.heap.size := by
  obtain ⟨c, t, fz, h1, h2⟩ := h
  exact (Array.getElem?_eq_some_iff.1 h1).1

theorem Keeps.alloc (B : Nat) (I : Nat → Prop) (w : World) (o : Obj) (hB : B ≤ w.heap.size) : Keeps B I w (w.alloc o) :=
  ⟨rfl, rfl, rfl, by simp, fun k hk _ => heap_alloc_old w o k (by omega), fun g N h => h.of_heap (heap_alloc_old w o g h.lt)⟩
theorem Keeps.drew (B : Nat) (I : Nat → Prop) (w : World) : Keeps B I w w.drew := ⟨rfl, rfl, rfl, Nat.le_refl _, fun _ _ _ => rfl, fun _ _ h => h⟩
theorem Keeps.setRow (B : Nat) (I : Nat → Prop) (w : World) (g : Nat) (cs cur : Array Value) (t : TypeId) (fr : Nat × Nat) (hg : w.heap[g]? = some (.cells cur t fr)) (hs : cs.size = cur.size) (hB : B ≤ g ∨ I g) : Keeps B I w (w.setRow g cs) := by
  refine ⟨rfl, rfl, rfl, by simp, fun k hk hn => setRow_other w g k cs (fun e => ?_), fun g' N h => ?_⟩
  · subst e; rcases hB with hB | hB
    · omega
    · exact hn hB
  · by_cases e : g' = g
    · subst e
      obtain ⟨c, t', fz, h1, h2⟩ := h
      rw [hg] at h1
      injection h1 with h1
      injection h1 with h1 _ _
      subst h1
      exact ⟨cs, t, fr, setRow_heap w g' cur cs t fr hg, by omega⟩
    · exact h.of_heap (setRow_other w g g' cs e)

theorem env_drew (c : Ctx) (β : Id → Option (Nat × Nat)) (σ : Id → Option Blk) (w : World) : (env c β σ w).Le (env c β σ w.drew) :=
  ⟨fun _ h => h, fun _ _ => rfl, fun _ _ h => h, fun id blk h => ⟨blk, h, Nat.le_refl _, fun _ => rfl⟩⟩

/-- Some orders were drawn. -/
theorem RelB.drew {c : Ctx} {β : Id → Option (Nat × Nat)} {s : St} {a : Act} {w : World} (h : RelB c β s a w) : RelB c β s a w.drew := by
  have L : (env c β s.store w).Le (env c β s.store w.drew) := ⟨fun _ h => h, fun _ _ => rfl, fun _ _ h => h, fun id blk h => ⟨blk, h, Nat.le_refl _, fun _ => rfl⟩⟩
  exact h.turn s.store s.gens (Keeps.drew _ _ _) L (fun id blk hs => (h.blocks id blk hs).mono L rfl fun _ _ _ => rfl) h.inj h.gens

end Go.Proofs.YtabofinagjdljaaE
