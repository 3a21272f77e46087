import Derived.Below
import Derived.Orders
import Derived.Laws.CopyRow
import Derived.Laws.Rows
import Derived.Laws.AppendOwn
import Derived.Laws.MakeOwn
import Derived.Tactics
import Derived.Laws.StructEq
import Derived.Laws.OwnMore
import Derived.Deep.AppendSrc
section
/- The abstract states of the engine: values as trees, blocks of the call's own, and how they stand to the machine's worlds. -/
set_option linter.unusedVariables false
set_option linter.unusedSimpArgs false
namespace Go.Proofs.YthgldcflcmlgpaaGreatDoorE
open Go.RowKit
structure Id where
  d : Nat
  g : Nat
  j : Nat
deriving DecidableEq
inductive PV where
  | any | nilS | nilP | nilI | nilF
  | int (k : IntKind) (n : Int)
  | bool (b : Bool)
  | str (s : ByteArray)
  | agg (l : List PV)
  | tup (l : List PV)
  | rd (l : List PV) (n : Nat)
  | rp (l : List PV)
  | sl (id : Id) (ver off n sz : Nat)
  | pt (id : Id) (ver off : Nat)
  | fn (f : FuncId) (first captured : List PV)
structure Blk where
  ver : Nat
  own : Bool
  flat : Bool
  cells : List PV
structure Env where
  w : World
  D : Nat → Prop
  β : Id → Option (Nat × Nat)
  σ : Id → Option Blk
def Room (w : World) (g N : Nat) : Prop := ∃ c e fz, w.heap[g]? = some (.cells c e fz) ∧ N ≤ c.size
def SlAt (w : World) (b : Option (Nat × Nat)) (off n sz : Nat) (v : Value) : Prop :=
  match b with
  | none => v = .slice none 0 0 ∧ n = 0
  | some (g, o) => ∃ cap, v = .slice (some ⟨g, o + off, none⟩) n cap ∧ n ≤ cap ∧ cap ≤ maxLen ∧ Room w g (o + off + cap * sz)
def PtAt (b : Option (Nat × Nat)) (off : Nat) (v : Value) : Prop :=
  ∃ g o, b = some (g, o) ∧ v = .pointer (some ⟨g, o + off, none⟩)
def Env.bare (E : Env) : Env := { E with σ := fun _ => none }
inductive VR : Env → PV → Value → Prop
  | any {E : Env} (v : Value) : VR E .any v
  | nilS {E : Env} : VR E .nilS (.slice none 0 0)
  | nilP {E : Env} : VR E .nilP (.pointer none)
  | nilI {E : Env} : VR E .nilI .nilIface
  | nilF {E : Env} : VR E .nilF .nilFunc
  | int {E : Env} (k : IntKind) (n : Int) : VR E (.int k n) (.int k n)
  | bool {E : Env} (b : Bool) : VR E (.bool b) (.bool b)
  | str {E : Env} (s : ByteArray) : VR E (.str s) (.string s)
  | agg {E : Env} (l : List PV) (cs : Array Value) : cs.size = l.length → (∀ j, j < l.length → VR E (l.getD j .any) (cs.getD j undef)) → (∀ j, j < l.length → (cs.getD j undef).oneCell' = true) → VR E (.agg l) (.agg cs)
  | tup {E : Env} (l : List PV) (cs : Array Value) : cs.size = l.length → (∀ j, j < l.length → VR E (l.getD j .any) (cs.getD j undef)) → VR E (.tup l) (.tuple cs)
  | rd0 {E : Env} (n : Nat) (A : Option Addr) (c : Nat) : n ≤ c → VR E (.rd [] n) (.slice A n c)
  | rd {E : Env} (l : List PV) (n : Nat) (a : Addr) (c : Nat) (us : Nat → Value) : n ≤ c → E.D a.block →
      (∀ j, j < l.length → E.w.cell? (a.add j) = some (us j)) → (∀ j, j < l.length → VR E.bare (l.getD j .any) (us j)) → (∀ j, j < l.length → (us j).oneCell' = true) → VR E (.rd l n) (.slice (some a) n c)
  | rp {E : Env} (l : List PV) (a : Addr) (us : Nat → Value) : E.D a.block →
      (∀ j, j < l.length → E.w.cell? (a.add j) = some (us j)) → (∀ j, j < l.length → VR E.bare (l.getD j .any) (us j)) → (∀ j, j < l.length → (us j).oneCell' = true) → VR E (.rp l) (.pointer (some a))
  | sl {E : Env} (id : Id) (ver off n sz : Nat) (v : Value) (blk : Blk) : E.σ id = some blk → ver ≤ blk.ver → (blk.ver = ver → SlAt E.w (E.β id) off n sz v) → v.oneCell' = true → VR E (.sl id ver off n sz) v
  | pt {E : Env} (id : Id) (ver off : Nat) (v : Value) (blk : Blk) : E.σ id = some blk → ver ≤ blk.ver → (blk.ver = ver → PtAt (E.β id) off v) → v.oneCell' = true → VR E (.pt id ver off) v
  | fn {E : Env} (f : FuncId) (fs cs : List PV) (va vb : Array Value) : va.size = fs.length → vb.size = cs.length → (∀ j, j < fs.length → VR E (fs.getD j .any) (va.getD j undef)) →
      (∀ j, j < cs.length → VR E (cs.getD j .any) (vb.getD j undef)) → VR E (.fn f fs cs) (.func (.func f) va vb)
structure Env.Le (E E' : Env) : Prop where
  D : ∀ g, E.D g → E'.D g
  heap : ∀ g, E.D g → E'.w.heap[g]? = E.w.heap[g]?
  room : ∀ g N, Room E.w g N → Room E'.w g N
  st : ∀ id blk, E.σ id = some blk → ∃ blk', E'.σ id = some blk' ∧ blk.ver ≤ blk'.ver ∧ (blk'.ver = blk.ver → E'.β id = E.β id)
theorem cell?_congr {w w' : World} {a : Addr} (h : w'.heap[a.block]? = w.heap[a.block]?) : w'.cell? a = w.cell? a := by simp [World.cell?, h]
theorem zgd (a : Addr) (j : Nat) : (a.add j).block = a.block := by unfold Addr.add; split <;> rfl
theorem add_lit (g o j : Nat) : (⟨g, o, none⟩ : Addr).add j = ⟨g, o + j, none⟩ := by unfold Addr.add; split <;> simp_all
theorem SlAt.mono {w w' : World} {b : Option (Nat × Nat)} {off n sz : Nat} {v : Value} (h : SlAt w b off n sz v) (hr : ∀ g N, Room w g N → Room w' g N) : SlAt w' b off n sz v := by
  unfold SlAt at *
  split at h
  · exact h
  · obtain ⟨cap, h1, h2, h3, h4⟩ := h
    exact ⟨cap, h1, h2, h3, hr _ _ h4⟩
theorem Env.Le.bare {E E' : Env} (L : E.Le E') : E.bare.Le E'.bare := ⟨L.D, L.heap, L.room, fun id blk h => by simp [Env.bare] at h⟩
theorem VR.mono' {E : Env} {p : PV} {v : Value} (h : VR E p v) : ∀ {E' : Env}, E.Le E' → VR E' p v := by
  induction h with
  | any v => intro E' L; exact .any v
  | nilS => intro E' L; exact .nilS
  | nilP => intro E' L; exact .nilP
  | nilI => intro E' L; exact .nilI
  | nilF => intro E' L; exact .nilF
  | int k n => intro E' L; exact .int k n
  | bool b => intro E' L; exact .bool b
  | str s => intro E' L; exact .str s
  | agg l cs hs h h1 ih => intro E' L; exact .agg l cs hs (fun j hj => ih j hj L) h1
  | tup l cs hs h ih => intro E' L; exact .tup l cs hs fun j hj => ih j hj L
  | rd0 n A c hn => intro E' L; exact .rd0 n A c hn
  | rd l n a c us hn hD hc h h1 ih => intro E' L; exact .rd l n a c us hn (L.D _ hD) (fun j hj => (cell?_congr (a := a.add j) (by rw [zgd]; exact L.heap _ hD)).trans (hc j hj)) (fun j hj => ih j hj L.bare) h1
  | rp l a us hD hc h h1 ih => intro E' L; exact .rp l a us (L.D _ hD) (fun j hj => (cell?_congr (a := a.add j) (by rw [zgd]; exact L.heap _ hD)).trans (hc j hj)) (fun j hj => ih j hj L.bare) h1
  | sl id ver off n sz v blk hb hv h h1 =>
    intro E' L
    obtain ⟨blk', hb', hle, hβ⟩ := L.st id blk hb
    refine .sl id ver off n sz v blk' hb' (by omega) (fun he => ?_) h1
    have e1 : blk.ver = ver := by omega
    have e2 : blk'.ver = blk.ver := by omega
    rw [hβ e2]
    exact (h e1).mono L.room
  | pt id ver off v blk hb hv h h1 =>
    intro E' L
    obtain ⟨blk', hb', hle, hβ⟩ := L.st id blk hb
    refine .pt id ver off v blk' hb' (by omega) (fun he => ?_) h1
    have e1 : blk.ver = ver := by omega
    have e2 : blk'.ver = blk.ver := by omega
    rw [hβ e2]
    exact h e1
  | fn f fs cs va vb h1 h2 h3 h4 ih1 ih2 => intro E' L; exact .fn f fs cs va vb h1 h2 (fun j hj => ih1 j hj L) (fun j hj => ih2 j hj L)
theorem VR.mono {E E' : Env} (L : E.Le E') {p : PV} {v : Value} (h : VR E p v) : VR E' p v := h.mono' L
theorem Env.Le.refl (E : Env) : E.Le E := ⟨fun _ h => h, fun _ _ => rfl, fun _ _ h => h, fun id blk h => ⟨blk, h, Nat.le_refl _, fun _ => rfl⟩⟩
theorem VR.of_bare {E : Env} {p : PV} {v : Value} (h : VR E.bare p v) : VR E p v :=
  VR.mono (E := E.bare) (E' := E) ⟨fun _ h => h, fun _ _ => rfl, fun _ _ h => h, fun id blk h => by simp [Env.bare] at h⟩ h
structure Keeps (B : Nat) (I : Nat → Prop) (w w' : World) : Prop where
  os : w'.os = w.os
  tape : w'.tape = w.tape
  output : w'.output = w.output
  size : w.heap.size ≤ w'.heap.size
  block : ∀ k, k < B → ¬ I k → w'.heap[k]? = w.heap[k]?
  room : ∀ g N, Room w g N → Room w' g N
theorem Keeps.refl (B : Nat) (I : Nat → Prop) (w : World) : Keeps B I w w := ⟨rfl, rfl, rfl, Nat.le_refl _, fun _ _ _ => rfl, fun _ _ h => h⟩
theorem Keeps.trans {B : Nat} {I : Nat → Prop} {a b c : World} (h : Keeps B I a b) (k : Keeps B I b c) : Keeps B I a c :=
  ⟨k.os.trans h.os, k.tape.trans h.tape, k.output.trans h.output, Nat.le_trans h.size k.size, fun i hi hn => (k.block i hi hn).trans (h.block i hi hn), fun g N hr => k.room g N (h.room g N hr)⟩
theorem Keeps.below {B : Nat} {w w' : World} (h : Keeps B (fun _ => False) w w') : Below B w w' := ⟨h.os, h.tape, h.output, h.size, fun k hk => h.block k hk (fun h => h)⟩
def BlkRel (E : Env) (B : Nat) (I : Id → Nat → Prop) (id : Id) (blk : Blk) : Prop :=
  match E.β id with
  | none => blk.cells = []
  | some (g, o) => (B ≤ g ∨ (id.d = 0 ∧ id.g = 0 ∧ I id g)) ∧ ∃ c e fz, E.w.heap[g]? = some (.cells c e fz) ∧ (blk.own = true → fz = (0, 0)) ∧ o + blk.cells.length ≤ c.size ∧
      ∀ j, j < blk.cells.length → VR (if blk.flat then E.bare else E) (blk.cells.getD j .any) (c.getD (o + j) undef) ∧ (c.getD (o + j) undef).oneCell' = true
theorem BlkRel.mono {E E' : Env} (L : E.Le E') {B : Nat} {I : Id → Nat → Prop} {id : Id} {blk : Blk} (h : BlkRel E B I id blk) (hβ : E'.β id = E.β id)
    (hh : ∀ g o, E.β id = some (g, o) → E'.w.heap[g]? = E.w.heap[g]?) : BlkRel E' B I id blk := by
  unfold BlkRel at *
  rw [hβ]
  cases hb : E.β id with
  | none => rw [hb] at h; exact h
  | some go =>
    obtain ⟨g, o⟩ := go
    rw [hb] at h
    obtain ⟨h0, c, e, fz, h1, h2, h3, h4⟩ := h
    refine ⟨h0, c, e, fz, (hh g o hb).trans h1, h2, h3, fun j hj => ⟨?_, (h4 j hj).2⟩⟩
    have h5 := (h4 j hj).1
    split
    · rename_i hf; rw [if_pos hf] at h5; exact h5.mono L.bare
    · rename_i hf; rw [if_neg hf] at h5; exact h5.mono L
structure St where
  frame : Nat → PV
  store : Id → Option Blk
  gens : Nat → Nat
structure Ctx where
  w0 : World
  I : Id → Nat → Prop
  D0 : Nat → Prop
  nt : Nat
  β0 : Id → Option (Nat × Nat)
  v0 : Id → Option Nat
def Ctx.IS (c : Ctx) (g : Nat) : Prop := ∃ id : Id, c.I id g
def env (c : Ctx) (β : Id → Option (Nat × Nat)) (σ : Id → Option Blk) (w : World) : Env :=
  ⟨w, fun g => g < w.heap.size ∧ (c.D0 g ∨ c.w0.heap.size ≤ g) ∧ ∀ id blk o, σ id = some blk → blk.own = true → β id ≠ some (g, o), β, σ⟩
structure RelB (c : Ctx) (β : Id → Option (Nat × Nat)) (s : St) (a : Act) (w : World) : Prop where
  keeps : Keeps c.w0.heap.size c.IS c.w0 w
  nt : a.tmps.size = c.nt
  defers : a.defers = []
  frame : ∀ t, VR (env c β s.store w) (s.frame t) (a.tmps.getD t undef)
  blocks : ∀ id blk, s.store id = some blk → BlkRel (env c β s.store w) c.w0.heap.size c.I id blk
  inj : ∀ id id' blk blk' g o o', s.store id = some blk → s.store id' = some blk' → blk.own = true → β id = some (g, o) → β id' = some (g, o') → id = id'
  gens : ∀ id blk, s.store id = some blk → id.g < s.gens id.d
  io : ∀ id n, c.v0 id = some n → ∃ blk, s.store id = some blk ∧ n ≤ blk.ver ∧ (blk.ver = n → β id = c.β0 id)
def Rel (c : Ctx) (s : St) (a : Act) (w : World) : Prop := ∃ β, RelB c β s a w
def upd {α : Type} (f : Nat → α) (d : Nat) (x : α) : Nat → α := fun t => if t = d then x else f t
def updI {α : Type} (f : Id → α) (d : Id) (x : α) : Id → α := fun t => if t = d then x else f t
@[simp] theorem zfl {α : Type} (f : Nat → α) (d : Nat) (x : α) : upd f d x d = x := by simp [upd]
theorem zbj {α : Type} (f : Nat → α) (d t : Nat) (x : α) (h : t ≠ d) : upd f d x t = f t := by simp [upd, h]
@[simp] theorem zds {α : Type} (f : Id → α) (d : Id) (x : α) : updI f d x d = x := by simp [updI]
theorem zan {α : Type} (f : Id → α) (d t : Id) (x : α) (h : t ≠ d) : updI f d x t = f t := by simp [updI, h]
def St.put (s : St) (d : Option Nat) (p : PV) : St :=
  match d with
  | some d => { s with frame := upd s.frame d p }
  | none => s
theorem zdj (xs : Array Value) (i j : Nat) (v u : Value) (hi : i < xs.size) : (xs.setIfInBounds i v).getD j u = if j = i then v else xs.getD j u := by
  rw [Array.getD_eq_getD_getElem?, Array.getD_eq_getD_getElem?, Array.getElem?_setIfInBounds]
  by_cases h : j = i
  · subst h; simp [hi]
  · have : ¬ i = j := fun e => h e.symm
    simp [h, this]
theorem RelB.put {c : Ctx} {β : Id → Option (Nat × Nat)} {s : St} {a : Act} {w : World} (h : RelB c β s a w) (d : Option Nat) (p : PV) (v : Value)
    (hd : ∀ t, d = some t → t < c.nt) (hv : ∀ t, d = some t → VR (env c β s.store w) p v) : RelB c β (s.put d p) (a.put d v) w := by
  cases d with
  | none => exact h
  | some t =>
    refine ⟨h.keeps, by simpa [Act.put] using h.nt, h.defers, fun u => ?_, h.blocks, h.inj, h.gens, h.io⟩
    have ht := hd t rfl
    simp only [St.put, Act.put]
    rw [zdj _ _ _ _ _ (by rw [h.nt]; exact ht)]
    by_cases e : u = t
    · subst e; simpa using hv u rfl
    · rw [if_neg e, zbj _ _ _ _ e]; exact h.frame u
theorem RelB.turn {c : Ctx} {β β' : Id → Option (Nat × Nat)} {s : St} {a : Act} {w w' : World} (h : RelB c β s a w) (σ' : Id → Option Blk) (gens' : Nat → Nat)
    (hk : Keeps c.w0.heap.size c.IS w w') (L : (env c β s.store w).Le (env c β' σ' w'))
    (hb : ∀ id blk, σ' id = some blk → BlkRel (env c β' σ' w') c.w0.heap.size c.I id blk)
    (hi : ∀ id id' blk blk' g o o', σ' id = some blk → σ' id' = some blk' → blk.own = true → β' id = some (g, o) → β' id' = some (g, o') → id = id')
    (hg : ∀ id blk, σ' id = some blk → id.g < gens' id.d) : RelB c β' { s with store := σ', gens := gens' } a w' :=
  ⟨h.keeps.trans hk, h.nt, h.defers, fun t => (h.frame t).mono L, hb, hi, hg, fun id n hn => by
    obtain ⟨blk, h1, h2, h3⟩ := h.io id n hn
    obtain ⟨blk', k1, k2, k3⟩ := L.st id blk h1
    refine ⟨blk', k1, by omega, fun e => ?_⟩
    have e1 : blk.ver = n := by omega
    have := k3 (by omega)
    exact this.trans (h3 e1)⟩
theorem BlkRel.lt {E : Env} {B : Nat} {I : Id → Nat → Prop} {id : Id} {blk : Blk} (h : BlkRel E B I id blk) {g o : Nat} (hb : E.β id = some (g, o)) : g < E.w.heap.size := by
  unfold BlkRel at h
  rw [hb] at h
  obtain ⟨_, c, e, fz, h1, _⟩ := h
  exact (Array.getElem?_eq_some_iff.1 h1).1
theorem RelB.write {c : Ctx} {β : Id → Option (Nat × Nat)} {s : St} {a : Act} {w w' : World} (h : RelB c β s a w) (x : Id) (blk' : Blk) (gx ox : Nat) (gens' : Nat → Nat)
    (hk : Keeps c.w0.heap.size c.IS w w') (hh : ∀ k, k ≠ gx → k < w.heap.size → w'.heap[k]? = w.heap[k]?)
    (hx : w.heap.size ≤ gx ∨ ∃ blk o, s.store x = some blk ∧ blk.own = true ∧ β x = some (gx, o))
    (hv : ∀ blk, s.store x = some blk → blk.ver ≤ blk'.ver ∧ (blk'.ver = blk.ver → β x = some (gx, ox)))
    (hn : (env c β s.store w).Le (env c (updI β x (some (gx, ox))) (updI s.store x (some blk')) w') → BlkRel (env c (updI β x (some (gx, ox))) (updI s.store x (some blk')) w') c.w0.heap.size c.I x blk')
    (hg : ∀ id blk, s.store id = some blk → id.g < gens' id.d) (hgx : x.g < gens' x.d) :
    RelB c (updI β x (some (gx, ox))) { s with store := updI s.store x (some blk'), gens := gens' } a w' := by
  have hne : ∀ id blk g o, s.store id = some blk → id ≠ x → β id = some (g, o) → g ≠ gx := by
    intro id blk g o hs hne hb e
    subst e
    rcases hx with hx | ⟨blkx, o', h1, h2, h3⟩
    · have := (h.blocks id blk hs).lt hb
      exact absurd (show g < w.heap.size from this) (by omega)
    · exact hne (h.inj x id blkx blk g o' o h1 hs h2 h3 hb).symm
  have L : (env c β s.store w).Le (env c (updI β x (some (gx, ox))) (updI s.store x (some blk')) w') := by
    have hDx : ∀ g, (env c β s.store w).D g → g ≠ gx := by
      rintro g ⟨h1, h2, h3⟩ e
      subst e
      rcases hx with hx | ⟨blkx, o', k1, k2, k3⟩
      · omega
      · exact h3 x blkx o' k1 k2 k3
    refine ⟨?_, ?_, hk.room, ?_⟩
    · rintro g hD
      have hgx' := hDx g hD
      obtain ⟨h1, h2, h3⟩ := hD
      refine ⟨Nat.lt_of_lt_of_le h1 hk.size, h2, fun id blk o hs ho hb => ?_⟩
      by_cases e : id = x
      · subst e; simp [updI] at hb; exact hgx' hb.1.symm
      · dsimp only [env] at *
        rw [zan _ _ _ _ e] at hs hb
        exact h3 id blk o hs ho hb
    · intro g hD
      exact hh g (hDx g hD) hD.1
    · intro id blk hs
      by_cases e : id = x
      · subst e
        exact ⟨blk', by simp [env], (hv blk hs).1, fun e => by simp [env, (hv blk hs).2 e]⟩
      · exact ⟨blk, by simp only [env]; rw [zan _ _ _ _ e]; exact hs, Nat.le_refl _, fun _ => by simp only [env]; rw [zan _ _ _ _ e]⟩
  refine h.turn (updI s.store x (some blk')) gens' hk L ?_ ?_ ?_
  · intro id blk hs
    by_cases e : id = x
    · subst e
      simp at hs
      subst hs
      exact hn L
    · rw [zan _ _ _ _ e] at hs
      have hb := h.blocks id blk hs
      refine hb.mono L (by simp only [env]; rw [zan _ _ _ _ e]) fun g o hb' => ?_
      exact hh g (hne id blk g o hs e hb') (hb.lt hb')
  · intro id id' blk blk2 g o o' hs hs' ho hb hb'
    by_cases e : id = x <;> by_cases e' : id' = x
    · rw [e, e']
    · subst e
      rw [zan _ _ _ _ e'] at hs' hb'
      simp at hb
      exact absurd hb.1.symm (hne id' blk2 g o' hs' e' hb')
    · subst e'
      rw [zan _ _ _ _ e] at hs hb
      simp at hb'
      exact absurd hb'.1.symm (hne id blk g o hs e hb)
    · rw [zan _ _ _ _ e'] at hs' hb'
      rw [zan _ _ _ _ e] at hs hb
      exact h.inj id id' blk blk2 g o o' hs hs' ho hb hb'
  · intro id blk hs
    by_cases e : id = x
    · subst e; exact hgx
    · rw [zan _ _ _ _ e] at hs
      exact hg id blk hs
theorem RelB.freeze {c : Ctx} {β : Id → Option (Nat × Nat)} {s : St} {a : Act} {w : World} (h : RelB c β s a w) (x : Id) (blk : Blk) (hx : s.store x = some blk) :
    RelB c β { s with store := updI s.store x (some { blk with own := false }) } a w := by
  have L : (env c β s.store w).Le (env c β (updI s.store x (some { blk with own := false })) w) := by
    refine ⟨?_, fun _ _ => rfl, fun _ _ h => h, ?_⟩
    · rintro g ⟨h1, h2, h3⟩
      refine ⟨h1, h2, fun id blk' o hs ho hb => ?_⟩
      by_cases e : id = x
      · subst e; simp at hs; subst hs; simp at ho
      · rw [zan _ _ _ _ e] at hs
        exact h3 id blk' o hs ho hb
    · intro id blk' hs
      by_cases e : id = x
      · subst e
        simp only [env] at hs
        rw [hx] at hs
        injection hs with hs
        subst hs
        exact ⟨{ blk with own := false }, by simp [env], Nat.le_refl _, fun _ => rfl⟩
      · exact ⟨blk', by simp only [env]; rw [zan _ _ _ _ e]; exact hs, Nat.le_refl _, fun _ => rfl⟩
  refine h.turn _ s.gens (Keeps.refl _ _ _) L ?_ ?_ ?_
  · intro id blk' hs
    by_cases e : id = x
    · subst e
      simp at hs
      subst hs
      have hb := (h.blocks id blk hx).mono L rfl (fun _ _ _ => rfl)
      unfold BlkRel at hb ⊢
      split at hb <;> rename_i hβ
      · simp only [hβ]; exact hb
      · simp only [hβ]
        obtain ⟨h0, cc, e, fz, h1, h2, h3, h4⟩ := hb
        exact ⟨h0, cc, e, fz, h1, by simp, h3, h4⟩
    · rw [zan _ _ _ _ e] at hs
      exact (h.blocks id blk' hs).mono L rfl (fun _ _ _ => rfl)
  · intro id id' blk1 blk2 g o o' hs hs' ho hb hb'
    by_cases e : id = x
    · subst e; simp at hs; subst hs; simp at ho
    · rw [zan _ _ _ _ e] at hs
      by_cases e' : id' = x
      · subst e'
        exact h.inj id id' blk1 blk g o o' hs hx ho hb hb'
      · rw [zan _ _ _ _ e'] at hs'
        exact h.inj id id' blk1 blk2 g o o' hs hs' ho hb hb'
  · intro id blk' hs
    by_cases e : id = x
    · subst e; exact h.gens id blk hx
    · rw [zan _ _ _ _ e] at hs
      exact h.gens id blk' hs
theorem Room.of_heap {w w' : World} {g N : Nat} (h : Room w g N) (e : w'.heap[g]? = w.heap[g]?) : Room w' g N := by
  obtain ⟨c, t, fz, h1, h2⟩ := h
  exact ⟨c, t, fz, e.trans h1, h2⟩
theorem Room.lt {w : World} {g N : Nat} (h : Room w g N) : g < w.heap.size := by
  obtain ⟨c, t, fz, h1, h2⟩ := h
  exact (Array.getElem?_eq_some_iff.1 h1).1
theorem Keeps.alloc (B : Nat) (I : Nat → Prop) (w : World) (o : Obj) (hB : B ≤ w.heap.size) : Keeps B I w (w.alloc o) :=
  ⟨rfl, rfl, rfl, by simp, fun k hk _ => heap_alloc_old w o k (by omega), fun g N h => h.of_heap (heap_alloc_old w o g h.lt)⟩
theorem Keeps.drew (B : Nat) (I : Nat → Prop) (w : World) : Keeps B I w w.drew := ⟨rfl, rfl, rfl, Nat.le_refl _, fun _ _ _ => rfl, fun _ _ h => h⟩
theorem Keeps.setRow (B : Nat) (I : Nat → Prop) (w : World) (g : Nat) (cs cur : Array Value) (t : TypeId) (fr : Nat × Nat) (hg : w.heap[g]? = some (.cells cur t fr)) (hs : cs.size = cur.size) (hB : B ≤ g ∨ I g) : Keeps B I w (w.setRow g cs) := by
  refine ⟨rfl, rfl, rfl, by simp, fun k hk hn => setRow_other w g k cs (fun e => ?_), fun g' N h => ?_⟩
  · subst e; rcases hB with hB | hB
    · omega
    · exact hn hB
  · by_cases e : g' = g
    · subst e
      obtain ⟨c, t', fz, h1, h2⟩ := h
      rw [hg] at h1
      injection h1 with h1
      injection h1 with h1 _ _
      subst h1
      exact ⟨cs, t, fr, setRow_heap w g' cur cs t fr hg, by omega⟩
    · exact h.of_heap (setRow_other w g g' cs e)
theorem zhi (c : Ctx) (β : Id → Option (Nat × Nat)) (σ : Id → Option Blk) (w : World) : (env c β σ w).Le (env c β σ w.drew) :=
  ⟨fun _ h => h, fun _ _ => rfl, fun _ _ h => h, fun id blk h => ⟨blk, h, Nat.le_refl _, fun _ => rfl⟩⟩
theorem RelB.drew {c : Ctx} {β : Id → Option (Nat × Nat)} {s : St} {a : Act} {w : World} (h : RelB c β s a w) : RelB c β s a w.drew := by
  have L : (env c β s.store w).Le (env c β s.store w.drew) := ⟨fun _ h => h, fun _ _ => rfl, fun _ _ h => h, fun id blk h => ⟨blk, h, Nat.le_refl _, fun _ => rfl⟩⟩
  exact h.turn s.store s.gens (Keeps.drew _ _ _) L (fun id blk hs => (h.blocks id blk hs).mono L rfl fun _ _ _ => rfl) h.inj h.gens
end Go.Proofs.YthgldcflcmlgpaaGreatDoorE
end
section
/- Operations that only make a value: what they make of abstract operands, and that the machine makes just this. -/
set_option linter.unusedVariables false
set_option linter.unusedSimpArgs false
namespace Go.Proofs.YthgldcflcmlgpaaGreatDoorE
open Go.RowKit
def ofConst : Value → PV
  | .int k n => .int k n
  | .bool b => .bool b
  | .string s => .str s
  | .slice none 0 0 => .nilS
  | .pointer none => .nilP
  | .nilIface => .nilI
  | .nilFunc => .nilF
  | _ => .any
def pv (f : Nat → PV) : Operand → PV
  | .tmp t => f t
  | .const v => ofConst v
  | .global _ => .any
  | .func f => .fn f [] []
theorem zol (E : Env) (v : Value) : VR E (ofConst v) v := by
  unfold ofConst
  split <;> first | exact .int _ _ | exact .bool _ | exact .str _ | exact .nilS | exact .nilP | exact .nilI | exact .nilF | exact .any _
theorem zbs {E : Env} {f : Nat → PV} {a : Act} (h : ∀ t, VR E (f t) (a.tmps.getD t undef)) (x : Operand) : VR E (pv f x) (a.eval x) := by
  cases x with
  | tmp t => exact h t
  | const v => exact zol E v
  | global g => exact .any _
  | func f => exact .fn f [] [] #[] #[] rfl rfl (by simp) (by simp)
def szOf (P : Program) (t : TypeId) : Option Nat := (P.info? t).map (·.size)
def byOf (P : Program) (t : TypeId) : Option Nat := (P.info? t).map (·.bytes)
def zeroOf (P : Program) (t : TypeId) : Option (List PV) := ((P.info? t).bind (·.zero)).map fun v => v.cells.toList.map ofConst
def aggD : TypeDesc → Bool
  | .struct _ | .array _ _ => true
  | _ => false
def aggOf (P : Program) (t : TypeId) : Option Bool := (P.underlying t).map aggD
section inv
variable {E : Env} {v : Value}
theorem VR.int_inv {k : IntKind} {n : Int} (h : VR E (.int k n) v) : v = .int k n := by cases h; rfl
theorem VR.bool_inv {b : Bool} (h : VR E (.bool b) v) : v = .bool b := by cases h; rfl
theorem VR.str_inv {s : ByteArray} (h : VR E (.str s) v) : v = .string s := by cases h; rfl
theorem VR.nilS_inv (h : VR E .nilS v) : v = .slice none 0 0 := by cases h; rfl
theorem VR.nilP_inv (h : VR E .nilP v) : v = .pointer none := by cases h; rfl
theorem VR.nilI_inv (h : VR E .nilI v) : v = .nilIface := by cases h; rfl
theorem VR.nilF_inv (h : VR E .nilF v) : v = .nilFunc := by cases h; rfl
theorem VR.agg_inv {l : List PV} (h : VR E (.agg l) v) : ∃ cs, v = .agg cs ∧ cs.size = l.length ∧ (∀ j, j < l.length → VR E (l.getD j .any) (cs.getD j undef)) ∧ (∀ j, j < l.length → (cs.getD j undef).oneCell' = true) := by
  cases h with | agg l cs h1 h2 h3 => exact ⟨cs, rfl, h1, h2, h3⟩
theorem VR.tup_inv {l : List PV} (h : VR E (.tup l) v) : ∃ cs, v = .tuple cs ∧ cs.size = l.length ∧ (∀ j, j < l.length → VR E (l.getD j .any) (cs.getD j undef)) := by
  cases h with | tup l cs h1 h2 => exact ⟨cs, rfl, h1, h2⟩
theorem VR.rd_inv {l : List PV} {n : Nat} (h : VR E (.rd l n) v) : ∃ A c, v = .slice A n c ∧ n ≤ c ∧ (l = [] ∨ ∃ (a : Addr) (us : Nat → Value), A = some a ∧ E.D a.block ∧
    (∀ j, j < l.length → E.w.cell? (a.add j) = some (us j)) ∧ (∀ j, j < l.length → VR E.bare (l.getD j .any) (us j)) ∧ (∀ j, j < l.length → (us j).oneCell' = true)) := by
  cases h with
  | rd0 n A c h0 => exact ⟨A, c, rfl, h0, .inl rfl⟩
  | rd l n a c us h0 h1 h2 h3 h4 => exact ⟨some a, c, rfl, h0, .inr ⟨a, us, rfl, h1, h2, h3, h4⟩⟩
theorem VR.rp_inv {l : List PV} (h : VR E (.rp l) v) : ∃ (a : Addr) (us : Nat → Value), v = .pointer (some a) ∧ E.D a.block ∧
    (∀ j, j < l.length → E.w.cell? (a.add j) = some (us j)) ∧ (∀ j, j < l.length → VR E.bare (l.getD j .any) (us j)) ∧ (∀ j, j < l.length → (us j).oneCell' = true) := by
  cases h with | rp l a us h1 h2 h3 h4 => exact ⟨a, us, rfl, h1, h2, h3, h4⟩
theorem VR.sl_inv {id : Id} {ver off n sz : Nat} {blk : Blk} (h : VR E (.sl id ver off n sz) v) (hb : E.σ id = some blk) (hv : blk.ver = ver) : SlAt E.w (E.β id) off n sz v := by
  cases h with | sl _ _ _ _ _ _ blk' h1 h2 h3 h4 => rw [hb] at h1; injection h1 with h1; subst h1; exact h3 hv
theorem VR.pt_inv {id : Id} {ver off : Nat} {blk : Blk} (h : VR E (.pt id ver off) v) (hb : E.σ id = some blk) (hv : blk.ver = ver) : PtAt (E.β id) off v := by
  cases h with | pt _ _ _ _ blk' h1 h2 h3 h4 => rw [hb] at h1; injection h1 with h1; subst h1; exact h3 hv
theorem VR.sl_dom {id : Id} {ver off n sz : Nat} (h : VR E (.sl id ver off n sz) v) : ∃ blk, E.σ id = some blk ∧ ver ≤ blk.ver := by
  cases h with | sl _ _ _ _ _ _ blk' h1 h2 h3 h4 => exact ⟨blk', h1, h2⟩
theorem VR.pt_dom {id : Id} {ver off : Nat} (h : VR E (.pt id ver off) v) : ∃ blk, E.σ id = some blk ∧ ver ≤ blk.ver := by
  cases h with | pt _ _ _ _ blk' h1 h2 h3 h4 => exact ⟨blk', h1, h2⟩
end inv
/-! ### arithmetic -/
def bitsOf (op : BinOp) (k : IntKind) (a b : Int) : Int :=
  match op with
  | .and => k.wrap ((BitVec.ofInt k.bits a &&& BitVec.ofInt k.bits b).toNat)
  | .or => k.wrap ((BitVec.ofInt k.bits a ||| BitVec.ofInt k.bits b).toNat)
  | .xor => k.wrap ((BitVec.ofInt k.bits a ^^^ BitVec.ofInt k.bits b).toNat)
  | _ => k.wrap ((BitVec.ofInt k.bits a &&& ~~~ BitVec.ofInt k.bits b).toNat)
def binI (op : BinOp) (k k' : IntKind) (a b : Int) : Option PV :=
  match op with
  | .shl => if b < 0 then none else some (.int k (k.wrap (a * 2 ^ (min b.toNat k.bits))))
  | .shr => if b < 0 then none else some (.int k (a.fdiv (2 ^ (min b.toNat k.bits))))
  | .add => if k = k' then some (.int k (k.wrap (a + b))) else none
  | .sub => if k = k' then some (.int k (k.wrap (a - b))) else none
  | .mul => if k = k' then some (.int k (k.wrap (a * b))) else none
  | .quo => if k = k' then (if b = 0 then none else some (.int k (k.wrap (a.tdiv b)))) else none
  | .rem => if k = k' then (if b = 0 then none else some (.int k (a.tmod b))) else none
  | .eql => if k = k' then some (.bool (a == b)) else none
  | .neq => if k = k' then some (.bool (a != b)) else none
  | .lss => if k = k' then some (.bool (decide (a < b))) else none
  | .leq => if k = k' then some (.bool (decide (a ≤ b))) else none
  | .gtr => if k = k' then some (.bool (decide (a > b))) else none
  | .geq => if k = k' then some (.bool (decide (a ≥ b))) else none
  | .and | .or | .xor | .andNot => if k = k' then some (.int k (bitsOf op k a b)) else none
def binS (op : BinOp) (x y : ByteArray) : Option PV :=
  match op with
  | .add => if x.size + y.size ≤ 9223372036854775807 then some (.str (x ++ y)) else none
  | .eql => some (.bool (x.toList == y.toList))
  | .neq => some (.bool (!(x.toList == y.toList)))
  | .lss => some (.bool (Op.bytesLess x.toList y.toList))
  | _ => none
def eqCell (P : Program) (t : TypeId) (p q : PV) : Option Bool :=
  match P.underlying t, p, q with
  | some (.int _), .int k a, .int k' b => if k = k' then some (a == b) else none
  | some .bool, .bool a, .bool b => some (a == b)
  | some .string, .str a, .str b => some (a.toList == b.toList)
  | _, _, _ => none
def eqFl (P : Program) (a b : List PV) : List Field → Option Bool
  | [] => some true
  | f :: r => if f.name = "_" then none else
    match a[f.offset]?, b[f.offset]? with
    | some p, some q => (eqCell P f.type p q).bind fun x => (eqFl P a b r).map fun y => x && y
    | _, _ => none
def eqT (P : Program) (t : TypeId) : Bool := !P.eqGuardType P.depth t && !P.stoodInHeld t
def binV (P : Program) (op : BinOp) (t : TypeId) (x y : PV) : Option PV :=
  match x, y with
  | .int k a, .int k' b => binI op k k' a b
  | .str a, .str b => binS op a b
  | .bool a, .bool b => (match P.underlying t, op with | some .bool, .eql => some (.bool (a == b)) | some .bool, .neq => some (.bool (a != b)) | _, _ => none)
  | .agg a, .agg b =>
    match eqT P t, P.underlying t, op with
    | true, some (.struct fs), .eql => (eqFl P a b fs.toList).map .bool
    | true, some (.struct fs), .neq => (eqFl P a b fs.toList).map fun c => .bool (!c)
    | _, _, _ => none
  | _, _ => none
theorem run_binI {P : Program} {w : World} {op : BinOp} {t : TypeId} {k k' : IntKind} {a b : Int} {p : PV} {E : Env} {X Y : Operand} (h : binI op k k' a b = some p) :
    ∃ v, (do eqGuard op t X Y (.int k a) (.int k' b); binOp op t (.int k a) (.int k' b) : Sem Value).run P w = .ok v w ∧ VR E p v := by
  have hg : (eqGuard op t X Y (.int k a) (.int k' b)).run P w = .ok () w := by
    unfold eqGuard
    cases op <;> simp
  simp only [Sem.run_bind, hg, Result.andThen_ok]
  cases op <;> simp only [binI] at h <;>
    first
      | (split at h <;> first | (cases h; done) | (rename_i hb; injection h with h; subst h; refine ⟨_, ?_, by first | exact .int _ _ | exact .bool _⟩; simp [binOp, Op.shift, Op.intArith, Op.intDiv, Op.intBits, Op.intCmp, bitsOf, hb]; try omega))
      | (split at h
         · rename_i hk
           subst hk
           first
             | (injection h with h; subst h; refine ⟨_, ?_, by first | exact .int _ _ | exact .bool _⟩; simp [binOp, Op.shift, Op.intArith, Op.intDiv, Op.intBits, Op.intCmp, bitsOf]; done)
             | (split at h
                · cases h
                · rename_i hb; injection h with h; subst h; refine ⟨_, ?_, by first | exact .int _ _ | exact .bool _⟩; simp [binOp, Op.shift, Op.intArith, Op.intDiv, Op.intBits, Op.intCmp, bitsOf, hb])
         · cases h)
      | (cases h; done)
theorem run_binS {P : Program} {w : World} {op : BinOp} {t : TypeId} {a b : ByteArray} {p : PV} {E : Env} {X Y : Operand} (h : binS op a b = some p) :
    ∃ v, (do eqGuard op t X Y (.string a) (.string b); binOp op t (.string a) (.string b) : Sem Value).run P w = .ok v w ∧ VR E p v := by
  have hg : (eqGuard op t X Y (.string a) (.string b)).run P w = .ok () w := by
    unfold eqGuard
    cases op <;> simp
  simp only [Sem.run_bind, hg, Result.andThen_ok]
  cases op <;> simp only [binS] at h <;> try (cases h; done)
  · split at h
    · rename_i hs
      injection h with h; subst h
      refine ⟨_, ?_, .str _⟩
      simp [binOp, Op.stringOp, IntKind.max, IntKind.signed, IntKind.bits]
      omega
    · cases h
  all_goals (injection h with h; subst h; refine ⟨_, ?_, .bool _⟩; simp [binOp, Op.stringOp])
theorem run_equalIn_bool {P : Program} {w : World} {t : TypeId} (d : Nat) (a b : Bool) (ht : P.underlying t = some .bool) : (Op.equalIn (d + 1) t (.bool a) (.bool b)).run P w = .ok (a == b) w := by
  simp only [Op.equalIn, Sem.run_bind, run_underlying ht, Result.andThen_ok, Sem.run_pure]
theorem zfe {P : Program} {w : World} {t : TypeId} (a b : Bool) (ht : P.underlying t = some .bool) : (Op.equal t (.bool a) (.bool b)).run P w = .ok (a == b) w :=
  run_equalIn_bool 9999 a b ht
theorem run_binB {P : Program} {w : World} {op : BinOp} {t : TypeId} {a b : Bool} {p : PV} {E : Env} {X Y : Operand} (h : binV P op t (.bool a) (.bool b) = some p) :
    ∃ v, (do eqGuard op t X Y (.bool a) (.bool b); binOp op t (.bool a) (.bool b) : Sem Value).run P w = .ok v w ∧ VR E p v := by
  have hg : (eqGuard op t X Y (.bool a) (.bool b)).run P w = .ok () w := by
    unfold eqGuard
    cases op <;> simp
  simp only [Sem.run_bind, hg, Result.andThen_ok]
  simp only [binV] at h
  split at h
  · rename_i ht
    injection h with h; subst h; refine ⟨_, ?_, .bool _⟩; simp only [binOp, Sem.run_bind, zfe a b ht, Result.andThen_ok, Sem.run_pure]
  · rename_i ht
    injection h with h; subst h; refine ⟨_, ?_, .bool _⟩; simp only [binOp, Sem.run_bind, zfe a b ht, Result.andThen_ok, Sem.run_pure]
    cases a <;> cases b <;> rfl
  · cases h
theorem zgt {P : Program} {w : World} {t : TypeId} {cs : Array Value} {off : Nat} {d : TypeDesc} (ht : P.underlying t = some d) (hd : aggD d = false) (h : off < cs.size) :
    (part t cs off).run P w = .ok (cs.getD off undef) w := by
  have hagg : (isAgg t).run P w = .ok false w := by
    unfold isAgg
    rw [Sem.run_bind, run_underlying ht w]
    cases d <;> simp_all [aggD]
  simp [part, Sem.run_bind, hagg, h, Array.getD]
theorem run_eqCell {P : Program} {w : World} {E : Env} {t : TypeId} {p q : PV} {u v : Value} {b : Bool} (d : Nat) (h : eqCell P t p q = some b) (hp : VR E p u) (hq : VR E q v) :
    (Op.equalIn (d + 1) t u v).run P w = .ok b w ∧ ∃ k, P.underlying t = some k ∧ aggD k = false := by
  unfold eqCell at h
  split at h
  · rename_i ht
    split at h
    · rename_i hk; subst hk; injection h with h; subst h
      rw [hp.int_inv, hq.int_inv]
      exact ⟨run_equalIn_int w d t _ _ _ _ ht, _, ht, rfl⟩
    · cases h
  · rename_i ht
    injection h with h; subst h
    rw [hp.bool_inv, hq.bool_inv]
    exact ⟨run_equalIn_bool' w d t _ _ ht, _, ht, rfl⟩
  · rename_i ht
    injection h with h; subst h
    rw [hp.str_inv, hq.str_inv]
    exact ⟨run_equalIn_string w d t _ _ ht, _, ht, rfl⟩
  · cases h
theorem getD_of_getElem? {l : List PV} {j : Nat} {p : PV} (h : l[j]? = some p) : l.getD j .any = p := by simp [List.getD, h]
theorem zke {P : Program} {w : World} {E : Env} {a b : List PV} {xs ys : Array Value} (d : Nat) (hx : xs.size = a.length) (hy : ys.size = b.length)
    (ha : ∀ j, j < a.length → VR E (a.getD j .any) (xs.getD j undef)) (hb : ∀ j, j < b.length → VR E (b.getD j .any) (ys.getD j undef)) :
    ∀ (fs : List Field) (r : Bool), eqFl P a b fs = some r → (Op.eqFields (d + 1) xs ys fs).run P w = .ok r w
  | [], r, h => by simp [eqFl] at h; subst h; simp [Op.eqFields]
  | f :: fs, r, h => by
    simp only [eqFl] at h
    split at h
    · cases h
    · rename_i hn
      split at h
      · rename_i p q hp hq
        cases hc : eqCell P f.type p q with
        | none => simp [hc] at h
        | some x =>
          cases hr : eqFl P a b fs with
          | none => simp [hc, hr] at h
          | some y =>
            simp [hc, hr] at h
            subst h
            obtain ⟨ha1, _⟩ := List.getElem?_eq_some_iff.1 hp
            obtain ⟨hb1, _⟩ := List.getElem?_eq_some_iff.1 hq
            have va := ha f.offset ha1
            have vb := hb f.offset hb1
            rw [getD_of_getElem? hp] at va
            rw [getD_of_getElem? hq] at vb
            obtain ⟨he, k, hk, hk2⟩ := run_eqCell (w := w) d hc va vb
            have ih := zke (w := w) d hx hy ha hb fs y hr
            rw [Op.eqFields, if_pos hn]
            simp only [Sem.run_bind, zgt (w := w) hk hk2 (show f.offset < xs.size by omega), zgt (w := w) hk hk2 (show f.offset < ys.size by omega), he, Result.andThen_ok]
            cases x
            · simp
            · simpa using ih
      · cases h
theorem run_binA {P : Program} {w : World} {E : Env} {op : BinOp} {t : TypeId} {a b : List PV} {u v : Value} {p : PV} {X Y : Operand} (h : binV P op t (.agg a) (.agg b) = some p) (hu : VR E (.agg a) u) (hv : VR E (.agg b) v) :
    ∃ r, (do eqGuard op t X Y u v; binOp op t u v : Sem Value).run P w = .ok r w ∧ VR E p r := by
  obtain ⟨xs, rfl, hx, ha, _⟩ := hu.agg_inv
  obtain ⟨ys, rfl, hy, hb, _⟩ := hv.agg_inv
  simp only [binV] at h
  split at h
  · rename_i fs hT hS
    simp [eqT] at hT
    cases hr : eqFl P a b fs.toList with
    | none => rw [hr] at h; cases h
    | some r =>
      rw [hr] at h; injection h with h; subst h
      have hf : P.fieldsOf t = fs := by simp only [Program.fieldsOf, hS]
      refine ⟨_, ?_, .bool _⟩
      have h1 := run_equalIn_struct (P := P) w 9999 t xs ys (by rw [hf]; exact hS) hT.2
      rw [hf, zke 9998 hx hy ha hb _ r hr] at h1
      simp only [Sem.run_bind, run_eqGuard_agg w _ t X Y xs ys hT.1, Result.andThen_ok, run_eql_struct, h1]
  · rename_i fs hT hS
    simp [eqT] at hT
    cases hr : eqFl P a b fs.toList with
    | none => rw [hr] at h; cases h
    | some r =>
      rw [hr] at h; injection h with h; subst h
      have hf : P.fieldsOf t = fs := by simp only [Program.fieldsOf, hS]
      refine ⟨_, ?_, .bool _⟩
      have h1 := run_equalIn_struct (P := P) w 9999 t xs ys (by rw [hf]; exact hS) hT.2
      rw [hf, zke 9998 hx hy ha hb _ r hr] at h1
      simp only [Sem.run_bind, run_eqGuard_agg w _ t X Y xs ys hT.1, Result.andThen_ok, run_neq_struct, h1]
  · cases h
theorem run_binV {P : Program} {w : World} {E : Env} {op : BinOp} {t : TypeId} {x y p : PV} {u v : Value} {X Y : Operand} (h : binV P op t x y = some p) (hx : VR E x u) (hy : VR E y v) :
    ∃ r, (do eqGuard op t X Y u v; binOp op t u v : Sem Value).run P w = .ok r w ∧ VR E p r := by
  have h0 := h
  unfold binV at h
  split at h
  · rw [hx.int_inv, hy.int_inv]; exact run_binI h
  · rw [hx.str_inv, hy.str_inv]; exact run_binS h
  · rw [hx.bool_inv, hy.bool_inv]; exact run_binB h0
  · exact run_binA h0 hx hy
  · cases h
end Go.Proofs.YthgldcflcmlgpaaGreatDoorE
end
section
/- The value of each operation that writes no memory, and that the machine yields it. -/
set_option linter.unusedVariables false
set_option linter.unusedSimpArgs false
namespace Go.Proofs.YthgldcflcmlgpaaGreatDoorE
open Go.RowKit
def live (σ : Id → Option Blk) (id : Id) (ver : Nat) : Option Blk :=
  match σ id with
  | some blk => if blk.ver = ver then some blk else none
  | none => none
theorem zbh {σ : Id → Option Blk} {id : Id} {ver : Nat} {blk : Blk} (h : live σ id ver = some blk) : σ id = some blk ∧ blk.ver = ver := by
  unfold live at h
  split at h
  · split at h
    · injection h with h; subst h; exact ⟨by assumption, by assumption⟩
    · cases h
  · cases h
def cellsOf : PV → List PV
  | .agg l => l
  | p => [p]
def leafB : PV → Bool
  | .any | .agg _ | .tup _ => false
  | _ => true
def solid : PV → Bool
  | .any | .tup _ => false
  | _ => true
theorem VR.leaf_one {E : Env} {p : PV} {v : Value} (h : VR E p v) (hl : leafB p = true) : v.oneCell' = true := by
  cases h <;> simp_all [leafB, Value.oneCell']
theorem VR.cells {E : Env} {p : PV} {v : Value} (h : VR E p v) (hs : solid p = true) :
    v.cells.size = (cellsOf p).length ∧ (∀ j, j < (cellsOf p).length → VR E ((cellsOf p).getD j .any) (v.cells.getD j undef)) ∧ (∀ j, j < (cellsOf p).length → (v.cells.getD j undef).oneCell' = true) := by
  cases p with
  | agg l =>
    obtain ⟨cs, rfl, h1, h2, h3⟩ := h.agg_inv
    exact ⟨h1, h2, h3⟩
  | any => simp [solid] at hs
  | tup l => simp [solid] at hs
  | _ =>
    have h1 := h.leaf_one rfl
    have hc : v.cells = #[v] := by cases v <;> simp_all [Value.cells, Value.oneCell']
    rw [hc]
    refine ⟨rfl, fun j hj => ?_, fun j hj => ?_⟩ <;> (have : j = 0 := by simp [cellsOf] at hj; omega) <;> subst this
    · simpa [cellsOf] using h
    · simpa using h1
/-! ### build -/
def fillP (place : Nat → Option (Nat × Nat)) (cells : List PV) : List (Nat × PV) → Option (List PV)
  | [] => some cells
  | (i, p) :: rest =>
    match place i with
    | none => none
    | some (off, size) =>
      if solid p && (cellsOf p).length == size && decide (off + size ≤ cells.length) then
        fillP place (cells.take off ++ cellsOf p ++ cells.drop (off + size)) rest
      else none
def placeS (P : Program) (fs : Array Field) (i : Nat) : Option (Nat × Nat) := (fs[i]?).bind fun f => (szOf P f.type).map fun s => (f.offset, s)
/-! ### the values -/
def idxV (P : Program) (t : TypeId) (x : PV) (i : Int) (σ : Id → Option Blk) : Option (PV × List Id) :=
  match P.underlying t, x with
  | some (.slice e), .rd l n => (szOf P e).bind fun sz => if 0 ≤ i ∧ i < n ∧ l.length = n * sz ∧ sz ≠ 0 then some (.rp (l.drop (i.toNat * sz)), []) else none
  | some (.slice e), .sl id ver off n sz' => (szOf P e).bind fun sz => if 0 ≤ i ∧ i < n ∧ sz = sz' then (live σ id ver).map fun _ => (.pt id ver (off + i.toNat * sz), [id]) else none
  | some (.array m e), .rp l => (szOf P e).bind fun sz => if 0 ≤ i ∧ i < m then some (.rp (l.drop (i.toNat * sz)), []) else none
  | some (.array m e), .pt id ver off => (szOf P e).bind fun sz => if 0 ≤ i ∧ i < m then (live σ id ver).map fun _ => (.pt id ver (off + i.toNat * sz), [id]) else none
  | _, _ => none
def fieldAddrV (P : Program) (s : TypeId) (x : PV) (f : Nat) (σ : Id → Option Blk) : Option (PV × List Id) :=
  match P.underlying s with
  | some (.struct fs) =>
    match fs[f]? with
    | some fd =>
      match szOf P fd.type, x with
      | some (_ + 1), .rp l => some (.rp (l.drop fd.offset), [])
      | some (_ + 1), .pt id ver off => (live σ id ver).map fun _ => (.pt id ver (off + fd.offset), [id])
      | _, _ => none
    | none => none
  | _ => none
def partV (P : Program) (t : TypeId) (l : List PV) (off : Nat) : Option PV :=
  match aggOf P t, szOf P t with
  | some true, some sz => if off + sz ≤ l.length then some (.agg ((l.drop off).take sz)) else none
  | some false, some _ => l[off]?
  | _, _ => none
def fieldV (P : Program) (t : TypeId) (x : PV) (f : Nat) : Option PV :=
  match P.underlying t, x with
  | some (.struct fs), .agg l => (fs[f]?).bind fun fd => partV P fd.type l fd.offset
  | _, _ => none
def byt (s : ByteArray) (i : Int) : Int := if h : i.toNat < s.size then ((s[i.toNat]'h).toNat : Int) else 0
def indexV (P : Program) (t : TypeId) (x : PV) (i : Int) : Option PV :=
  match P.underlying t, x with
  | some .string, .str s => if 0 ≤ i ∧ i < s.size then some (.int .u8 (byt s i)) else none
  | some (.array m e), .agg l => (szOf P e).bind fun sz => if 0 ≤ i ∧ i < m then partV P e l (i.toNat * sz) else none
  | _, _ => none
def extractV (x : PV) (i : Nat) : Option PV :=
  match x with
  | .tup l => l[i]?
  | _ => none
def boundsV (len cap : Nat) (lo hi mx : Option PV) : Option (Nat × Nat) :=
  match mx with
  | none =>
    match hi with
    | some (.int _ h) => if 0 ≤ h ∧ h ≤ cap then (match lo with
        | some (.int _ l) => if 0 ≤ l ∧ l ≤ h then some (l.toNat, h.toNat) else none
        | none => some (0, h.toNat)
        | _ => none) else none
    | none => (match lo with
        | some (.int _ l) => if 0 ≤ l ∧ l ≤ len then some (l.toNat, len) else none
        | none => some (0, len)
        | _ => none)
    | _ => none
  | some (.int _ m) =>
    match hi with
    | some (.int _ h) => if 0 ≤ m ∧ m ≤ cap ∧ 0 ≤ h ∧ h ≤ m then (match lo with
        | some (.int _ l) => if 0 ≤ l ∧ l ≤ h then some (l.toNat, h.toNat) else none
        | none => some (0, h.toNat)
        | _ => none) else none
    | _ => none
  | _ => none
def sliceV (P : Program) (t : TypeId) (x : PV) (lo hi mx : Option PV) (σ : Id → Option Blk) : Option (PV × List Id) :=
  match P.underlying t, x with
  | some .string, .str s => if mx.isSome then none else (boundsV s.size s.size lo hi none).map fun (l, h) => (.str (s.extract l h), [])
  | some (.slice e), .rd l n => (szOf P e).bind fun sz => (boundsV n n lo hi mx).bind fun (a, b) => if l.length = n * sz then some (.rd ((l.drop (a * sz)).take ((b - a) * sz)) (b - a), []) else none
  | some (.slice e), .sl id ver off n sz' => (szOf P e).bind fun sz => if sz = sz' then (boundsV n n lo hi mx).bind fun (a, b) => if a = 0 ∨ a < b then (live σ id ver).map fun _ => (.sl id ver (off + a * sz) (b - a) sz, [id]) else none else none
  | some (.slice e), .nilS => (szOf P e).bind fun _ => (boundsV 0 0 lo hi mx).map fun _ => (.nilS, [])
  | some (.array m e), .pt id ver off => (szOf P e).bind fun sz => (boundsV m m lo hi mx).bind fun (a, b) => (live σ id ver).bind fun blk => if off + m * sz ≤ blk.cells.length ∧ m ≤ 4096 ∧ (a = 0 ∨ a < b) then some (.sl id ver (off + a * sz) (b - a) sz, [id]) else none
  | _, _ => none
def lenV (P : Program) (t : TypeId) (x : PV) (σ : Id → Option Blk) : Option (PV × List Id) :=
  match P.underlying t, x with
  | some .string, .str s => some (.int .i64 s.size, [])
  | some (.slice _), .rd _ n => some (.int .i64 n, [])
  | some (.slice _), .nilS => some (.int .i64 0, [])
  | some (.slice _), .sl id ver _ n _ => (live σ id ver).map fun _ => (.int .i64 n, [id])
  | some (.array m _), _ => some (.int .i64 m, [])
  | _, _ => none
def foldV (f : Int → Int → Int) : IntKind → Int → List PV → Option PV
  | k, x, [] => some (.int k x)
  | k, x, .int _ y :: r => foldV f k (f x y) r
  | _, _, _ => none
def mx2 (x y : Int) : Int := if y > x then y else x
def mn2 (x y : Int) : Int := if y < x then y else x
def convV (P : Program) (src dst : TypeId) (x : PV) : Option PV :=
  match P.underlying src, P.underlying dst, x with
  | some _, some (.int k), .int _ n => some (.int k (k.wrap n))
  | some _, some .string, .str s => some (.str s)
  | _, _, _ => none
def unV (op : UnOp) (x : PV) : Option PV :=
  match op, x with
  | .neg, .int k n => some (.int k (k.wrap (0 - n)))
  | .xor, .int k n => some (.int k (bitsOf .xor k (if k.signed then -1 else k.max) n))
  | .not, .bool b => some (.bool !b)
  | _, _ => none
def allParts (ρ : Operand → PV) : List (Nat × Operand) → List (Nat × PV)
  | [] => []
  | (i, x) :: r => (i, ρ x) :: allParts ρ r
def buildV (P : Program) (t : TypeId) (parts : List (Nat × PV)) : Option PV :=
  match P.underlying t, zeroOf P t with
  | some (.struct fs), some z => if z.all leafB && fs.toList.all (fun f => (szOf P f.type).isSome) then (fillP (placeS P fs) z parts).map .agg else none
  | some (.array _ e), some z => if z.all leafB then (szOf P e).bind fun sz => (fillP (fun i => some (i * sz, sz)) z parts).map .agg else none
  | _, _ => none
def evalV (P : Program) (op : Op) (ρ : Operand → PV) (σ : Id → Option Blk) : Option (PV × List Id) :=
  match op with
  | .move x | .assign x => some (ρ x, [])
  | .pick c a b => match ρ c with
    | .bool t => some (if t then ρ a else ρ b, [])
    | _ => none
  | .nilCheck x => match ρ x with
    | .pt id ver off => (live σ id ver).map fun _ => (.pt id ver off, [id])
    | .rp l => some (.rp l, [])
    | _ => none
  | .binOp o t x y _ => (binV P o t (ρ x) (ρ y)).map fun p => (p, [])
  | .unOp o _ x => (unV o (ρ x)).map fun p => (p, [])
  | .convert s d x => (convV P s d (ρ x)).map fun p => (p, [])
  | .build t ps => (buildV P t (allParts ρ ps.toList)).map fun p => (p, [])
  | .field t x f => (fieldV P t (ρ x) f).map fun p => (p, [])
  | .extract x i => (extractV (ρ x) i).map fun p => (p, [])
  | .fieldAddr s x f => fieldAddrV P s (ρ x) f σ
  | .indexAddr t x i => match ρ i with
    | .int _ n => idxV P t (ρ x) n σ
    | _ => none
  | .index t x i => match ρ i with
    | .int _ n => (indexV P t (ρ x) n).map fun p => (p, [])
    | _ => none
  | .slice t x lo hi mx => sliceV P t (ρ x) (lo.map ρ) (hi.map ρ) (mx.map ρ) σ
  | .makeFunc (.func f) fi ca => some (.fn f (fi.toList.map ρ) (ca.toList.map ρ), [])
  | .call { callee := .builtin .len, args, argTypes } => match args.toList, argTypes.toList with
    | [x], [t] => lenV P t (ρ x) σ
    | _, _ => none
  | .call { callee := .builtin .max, args, .. } => match args.toList.map ρ with
    | .int k x :: r => (foldV mx2 k x r).map fun p => (p, [])
    | _ => none
  | .call { callee := .builtin .min, args, .. } => match args.toList.map ρ with
    | .int k x :: r => (foldV mn2 k x r).map fun p => (p, [])
    | _ => none
  | _ => none
end Go.Proofs.YthgldcflcmlgpaaGreatDoorE
end
section
/- The machine yields the values of Ec. -/
set_option linter.unusedVariables false
set_option linter.unusedSimpArgs false
namespace Go.Proofs.YthgldcflcmlgpaaGreatDoorE
open Go.RowKit
section
variable {P : Program} {E : Env}
theorem zhq {t : TypeId} {n : Nat} (h : szOf P t = some n) : ∃ i, P.info? t = some i ∧ i.size = n := by
  unfold szOf at h
  cases hi : P.info? t with
  | none => rw [hi] at h; cases h
  | some i => rw [hi] at h; injection h with h; exact ⟨i, rfl, h⟩
theorem zav {t : TypeId} {n : Nat} (h : szOf P t = some n) (w : World) : (sizeOf t).run P w = .ok n w := by
  obtain ⟨i, hi, rfl⟩ := zhq h
  simp [sizeOf, typeInfo, hi]
theorem aggOf_und {t : TypeId} {b : Bool} (h : aggOf P t = some b) : ∃ d, P.underlying t = some d ∧ aggD d = b := by
  unfold aggOf at h
  cases hd : P.underlying t with
  | none => rw [hd] at h; cases h
  | some d => rw [hd] at h; injection h with h; exact ⟨d, rfl, h⟩
theorem zfp {t : TypeId} {b : Bool} (h : aggOf P t = some b) (w : World) : (isAgg t).run P w = .ok b w := by
  obtain ⟨d, hd, rfl⟩ := aggOf_und h
  unfold isAgg
  rw [Sem.run_bind, run_underlying hd w]
  cases d <;> simp [aggD]
theorem zco (l : List PV) (k j : Nat) : (l.drop k).getD j .any = l.getD (k + j) .any := by simp [List.getD]
theorem zcn (l : List PV) (k j : Nat) (h : j < k) : (l.take k).getD j .any = l.getD j .any := by simp [List.getD, List.getElem?_take, h]
theorem zet (a : Addr) (i j : Nat) : (a.add i).add j = a.add (i + j) := by
  unfold Addr.add
  by_cases hi : i = 0 <;> by_cases hj : j = 0 <;> simp [hi, hj, Nat.add_assoc]
theorem zmd (cs : Array Value) (i : Nat) (h : i < cs.size) : cs[i]? = some (cs.getD i undef) := by simp [Array.getD, h]
theorem zll {t : TypeId} {l : List PV} {off : Nat} {p : PV} {cs : Array Value} (w : World) (h : partV P t l off = some p) (hs : cs.size = l.length)
    (hv : ∀ j, j < l.length → VR E (l.getD j .any) (cs.getD j undef)) (h1 : ∀ j, j < l.length → (cs.getD j undef).oneCell' = true) :
    ∃ v, (part t cs off).run P w = .ok v w ∧ VR E p v := by
  unfold partV at h
  split at h
  · rename_i sz ha hz
    split at h
    · rename_i hl
      injection h with h; subst h
      refine ⟨_, by simp [part, zfp ha, zav hz]; rfl, ?_⟩
      refine .agg _ _ (by simp; omega) (fun j hj => ?_) fun j hj => ?_
      · have hj' : j < sz := by simp at hj; omega
        rw [zcn _ _ _ hj', zco]
        have := hv (off + j) (by omega)
        rw [Array.getD_eq_getD_getElem?, Array.getElem?_extract_of_lt (by omega)]
        rwa [Array.getD_eq_getD_getElem?, Array.getElem?_eq_getElem (by omega)] at this
      · have hj' : j < sz := by simp at hj; omega
        have := h1 (off + j) (by omega)
        rw [Array.getD_eq_getD_getElem?, Array.getElem?_extract_of_lt (by omega)]
        rwa [Array.getD_eq_getD_getElem?, Array.getElem?_eq_getElem (by omega)] at this
    · cases h
  · rename_i sz ha hz
    obtain ⟨hl, _⟩ := List.getElem?_eq_some_iff.1 h
    refine ⟨cs.getD off undef, ?_, ?_⟩
    · simp only [part, Sem.run_bind, zfp ha, Result.andThen_ok, Bool.false_eq_true, if_false, zmd cs off (by omega), Sem.run_pure]
    · have := hv off hl
      rwa [getD_of_getElem? h] at this
  · cases h
theorem run_fieldV {t : TypeId} {x p : PV} {f : Nat} {v : Value} (w : World) (h : fieldV P t x f = some p) (hx : VR E x v) : ∃ r, (Instr.field t v f).run P w = .ok r w ∧ VR E p r := by
  unfold fieldV at h
  split at h
  · rename_i fs l hu
    obtain ⟨cs, rfl, h1, h2, h3⟩ := hx.agg_inv
    cases hf : fs[f]? with
    | none => rw [hf] at h; cases h
    | some fd =>
      rw [hf] at h
      obtain ⟨r, hr, hv⟩ := zll w h h1 h2 h3
      exact ⟨r, by simp only [Instr.field, Sem.run_bind, run_underlying hu, Result.andThen_ok, hf, asAgg, Sem.run_pure, hr], hv⟩
  · cases h
theorem run_extractV {x p : PV} {i : Nat} {v : Value} (w : World) (h : extractV x i = some p) (hx : VR E x v) : ∃ r, (Instr.extract v i).run P w = .ok r w ∧ VR E p r := by
  unfold extractV at h
  split at h
  · rename_i l
    obtain ⟨cs, rfl, h1, h2⟩ := hx.tup_inv
    obtain ⟨hl, _⟩ := List.getElem?_eq_some_iff.1 h
    have := h2 i hl
    rw [getD_of_getElem? h] at this
    exact ⟨_, by simp only [Instr.extract, zmd cs i (by omega), Sem.run_pure], this⟩
  · cases h
theorem zcd (w : World) (k : IntKind) (n : Int) : (asIntOf (.int k n)).run P w = .ok (k, n) w := rfl
theorem zmm {l : List PV} {a : Addr} {us : Nat → Value} (k : Nat) (hD : E.D a.block) (h1 : ∀ j, j < l.length → E.w.cell? (a.add j) = some (us j))
    (h2 : ∀ j, j < l.length → VR E.bare (l.getD j .any) (us j)) (h3 : ∀ j, j < l.length → (us j).oneCell' = true) : VR E (.rp (l.drop k)) (.pointer (some (a.add k))) := by
  refine .rp _ _ (fun j => us (k + j)) (by rw [zgd]; exact hD) (fun j hj => ?_) (fun j hj => ?_) fun j hj => ?_
  · rw [zet]; exact h1 _ (by simp at hj; omega)
  · rw [zco]; exact h2 _ (by simp at hj; omega)
  · exact h3 _ (by simp at hj; omega)
theorem zpt {id : Id} {ver off : Nat} {blk : Blk} {v : Value} (k : Nat) (hl : live E.σ id ver = some blk) (h : VR E (.pt id ver off) v) :
    ∃ a, v = .pointer (some a) ∧ VR E (.pt id ver (off + k)) (.pointer (some (a.add k))) := by
  obtain ⟨hb, hv⟩ := zbh hl
  obtain ⟨g, o, e, rfl⟩ := h.pt_inv hb hv
  refine ⟨_, rfl, .pt id ver _ _ blk hb (by omega) (fun _ => ⟨g, o, e, ?_⟩) rfl⟩
  rw [add_lit, Nat.add_assoc]
theorem sl_at {id : Id} {ver off n sz : Nat} {blk : Blk} {v : Value} (k : Nat) (hn : n ≠ 0) (hl : live E.σ id ver = some blk) (h : VR E (.sl id ver off n sz) v) :
    ∃ a cap, v = .slice (some a) n cap ∧ VR E (.pt id ver (off + k)) (.pointer (some (a.add k))) := by
  obtain ⟨hb, hv⟩ := zbh hl
  have hs := h.sl_inv hb hv
  unfold SlAt at hs
  split at hs
  · exact absurd hs.2 hn
  · rename_i g o e
    obtain ⟨cap, rfl, h2, h3⟩ := hs
    refine ⟨_, cap, rfl, .pt id ver _ _ blk hb (by omega) (fun _ => ⟨g, o, e, ?_⟩) rfl⟩
    rw [add_lit, Nat.add_assoc]
theorem run_idxV {t : TypeId} {x p : PV} {k : IntKind} {i : Int} {rs : List Id} {v : Value} (w : World) (h : idxV P t x i E.σ = some (p, rs)) (hx : VR E x v) :
    ∃ r, (Instr.indexAt t v (.int k i)).run P w = .ok r w ∧ VR E p r := by
  unfold idxV at h
  split at h
  · rename_i e l n hu
    cases hz : szOf P e with
    | none => rw [hz] at h; cases h
    | some sz =>
      rw [hz] at h
      simp only [Option.bind_some] at h
      split at h
      · rename_i hb
        injection h with h; injection h with h1 h2; subst h1
        obtain ⟨A, c, rfl, hnc, hc⟩ := hx.rd_inv
        obtain ⟨b1, b2, b3, b4⟩ := hb
        rcases hc with rfl | ⟨a, us, rfl, hD, c1, c2, c3⟩
        · rw [List.length_nil] at b3; have := Nat.mul_pos (show 0 < n by omega) (Nat.pos_of_ne_zero b4); omega
        · refine ⟨_, ?_, zmm (i.toNat * sz) hD c1 c2 c3⟩
          simp only [Instr.indexAt, Sem.run_bind, zcd, Result.andThen_ok, run_underlying hu, Sem.run_pure, if_pos (And.intro b1 b2), zav hz]
      · cases h
  · rename_i e id ver off n sz' hu
    cases hz : szOf P e with
    | none => rw [hz] at h; cases h
    | some sz =>
      rw [hz] at h
      simp only [Option.bind_some] at h
      split at h
      · rename_i hb
        obtain ⟨b1, b2, b3⟩ := hb
        cases hl : live E.σ id ver with
        | none => rw [hl] at h; cases h
        | some blk =>
          rw [hl] at h
          injection h with h; injection h with h1 h2; subst h1
          obtain ⟨a, cap, rfl, hp⟩ := sl_at (i.toNat * sz) (by omega) hl hx
          refine ⟨_, ?_, hp⟩
          simp only [Instr.indexAt, Sem.run_bind, zcd, Result.andThen_ok, run_underlying hu, Sem.run_pure, if_pos (And.intro b1 b2), zav hz]
      · cases h
  · rename_i m e l hu
    cases hz : szOf P e with
    | none => rw [hz] at h; cases h
    | some sz =>
      rw [hz] at h
      simp only [Option.bind_some] at h
      split at h
      · rename_i hb
        injection h with h; injection h with h1 h2; subst h1
        obtain ⟨a, us, rfl, hD, c1, c2, c3⟩ := hx.rp_inv
        refine ⟨_, ?_, zmm (i.toNat * sz) hD c1 c2 c3⟩
        simp only [Instr.indexAt, Instr.sureAddr, Sem.run_bind, zcd, Result.andThen_ok, run_underlying hu, Sem.run_pure, if_pos hb, zav hz]
      · cases h
  · rename_i m e id ver off hu
    cases hz : szOf P e with
    | none => rw [hz] at h; cases h
    | some sz =>
      rw [hz] at h
      simp only [Option.bind_some] at h
      split at h
      · rename_i hb
        cases hl : live E.σ id ver with
        | none => rw [hl] at h; cases h
        | some blk =>
          rw [hl] at h
          injection h with h; injection h with h1 h2; subst h1
          obtain ⟨a, rfl, hp⟩ := zpt (i.toNat * sz) hl hx
          refine ⟨_, ?_, hp⟩
          simp only [Instr.indexAt, Instr.sureAddr, Sem.run_bind, zcd, Result.andThen_ok, run_underlying hu, Sem.run_pure, if_pos hb, zav hz]
      · cases h
  · cases h
theorem run_fieldAddrV {s : TypeId} {x p : PV} {f : Nat} {rs : List Id} {v : Value} (w : World) (h : fieldAddrV P s x f E.σ = some (p, rs)) (hx : VR E x v) :
    ∃ r, (Instr.fieldAt s v f).run P w = .ok r w ∧ VR E p r := by
  unfold fieldAddrV at h
  split at h
  · rename_i fs hu
    split at h
    · rename_i fd hf
      split at h
      · rename_i m l hz
        injection h with h; injection h with h1 h2; subst h1
        obtain ⟨a, us, rfl, hD, c1, c2, c3⟩ := hx.rp_inv
        refine ⟨_, ?_, zmm fd.offset hD c1 c2 c3⟩
        simp only [Instr.fieldAt, Instr.sureAddr, fieldPlace, Sem.run_bind, Result.andThen_ok, run_underlying hu, hf, Sem.run_pure, zav hz, if_neg (Nat.succ_ne_zero m)]
      · rename_i m id ver off hz
        cases hl : live E.σ id ver with
        | none => rw [hl] at h; cases h
        | some blk =>
          rw [hl] at h
          injection h with h; injection h with h1 h2; subst h1
          obtain ⟨a, rfl, hp⟩ := zpt fd.offset hl hx
          refine ⟨_, ?_, hp⟩
          simp only [Instr.fieldAt, Instr.sureAddr, fieldPlace, Sem.run_bind, Result.andThen_ok, run_underlying hu, hf, Sem.run_pure, zav hz, if_neg (Nat.succ_ne_zero m)]
      · cases h
    · cases h
  · cases h
theorem run_indexV {t : TypeId} {x p : PV} {k : IntKind} {i : Int} {v : Value} (w : World) (h : indexV P t x i = some p) (hx : VR E x v) :
    ∃ r, (Instr.index t v (.int k i)).run P w = .ok r w ∧ VR E p r := by
  unfold indexV at h
  split at h
  · rename_i s hu
    split at h
    · rename_i hb
      injection h with h; subst h
      rw [hx.str_inv]
      have hlt : i.toNat < s.size := by omega
      refine ⟨_, ?_, .int _ _⟩
      simp only [Instr.index, Sem.run_bind, zcd, Result.andThen_ok, run_underlying hu, if_pos hb.1, getElem?_pos s i.toNat hlt, Sem.run_pure, byt, dif_pos hlt]
    · cases h
  · rename_i m e l hu
    cases hz : szOf P e with
    | none => rw [hz] at h; cases h
    | some sz =>
      rw [hz] at h
      simp only [Option.bind_some] at h
      split at h
      · rename_i hb
        obtain ⟨cs, rfl, h1, h2, h3⟩ := hx.agg_inv
        obtain ⟨r, hr, hv⟩ := zll w h h1 h2 h3
        exact ⟨r, by simp only [Instr.index, Sem.run_bind, zcd, Result.andThen_ok, run_underlying hu, if_pos hb, zav hz, hr], hv⟩
      · cases h
  · cases h
theorem run_unV {o : UnOp} {x p : PV} {v : Value} (w : World) (h : unV o x = some p) (hx : VR E x v) : ∃ r, (Op.unary o v).run P w = .ok r w ∧ VR E p r := by
  unfold unV at h
  split at h <;> first | (injection h with h; subst h) | (cases h; done)
  · rw [hx.int_inv]; exact ⟨_, rfl, .int _ _⟩
  · rw [hx.int_inv]; exact ⟨_, rfl, .int _ _⟩
  · rw [hx.bool_inv]; exact ⟨_, rfl, .bool _⟩
theorem run_convV {s d : TypeId} {x p : PV} {v : Value} (w : World) (h : convV P s d x = some p) (hx : VR E x v) : ∃ r, (convert s d v).run P w = .ok r w ∧ VR E p r := by
  unfold convV at h
  split at h
  · rename_i hs hd
    injection h with h; subst h
    rw [hx.int_inv]
    refine ⟨_, ?_, .int _ _⟩
    simp only [convert, Sem.run_bind, run_underlying hs, run_underlying hd, Result.andThen_ok, Conv.intToInt, Sem.run_pure]
  · rename_i hs hd
    injection h with h; subst h
    rw [hx.str_inv]
    refine ⟨_, ?_, .str _⟩
    simp only [convert, Sem.run_bind, run_underlying hs, run_underlying hd, Result.andThen_ok, Sem.run_pure]
  · cases h
theorem zpl (w : World) : ∀ (l : List PV) (vs : List Value) (k : IntKind) (x : Int) (p : PV), foldV mx2 k x l = some p → vs.length = l.length → (∀ j, j < l.length → VR E (l.getD j .any) (vs.getD j undef)) →
    ∃ r, (vs.foldlM Builtin.max2 (.int k x)).run P w = .ok r w ∧ VR E p r
  | [], vs, k, x, p, h, hl, _ => by
    obtain rfl : vs = [] := List.eq_nil_of_length_eq_zero hl
    injection h with h; subst h
    exact ⟨_, rfl, .int _ _⟩
  | q :: l, vs, k, x, p, h, hl, hv => by
    cases vs with
    | nil => cases hl
    | cons u vs =>
      cases q <;> simp only [foldV] at h <;> try (cases h; done)
      have hu := (hv 0 (by simp)).int_inv
      simp at hu; subst hu
      obtain ⟨r, hr, hp⟩ := zpl w l vs k _ p h (by simpa using hl) (fun j hj => by have := hv (j + 1) (by simp; omega); simpa using this)
      refine ⟨r, ?_, hp⟩
      simp only [List.foldlM_cons, Sem.run_bind, Builtin.max2, Sem.run_pure, Result.andThen_ok]
      exact hr
theorem zpk (w : World) : ∀ (l : List PV) (vs : List Value) (k : IntKind) (x : Int) (p : PV), foldV mn2 k x l = some p → vs.length = l.length → (∀ j, j < l.length → VR E (l.getD j .any) (vs.getD j undef)) →
    ∃ r, (vs.foldlM Builtin.min2 (.int k x)).run P w = .ok r w ∧ VR E p r
  | [], vs, k, x, p, h, hl, _ => by
    obtain rfl : vs = [] := List.eq_nil_of_length_eq_zero hl
    injection h with h; subst h
    exact ⟨_, rfl, .int _ _⟩
  | q :: l, vs, k, x, p, h, hl, hv => by
    cases vs with
    | nil => cases hl
    | cons u vs =>
      cases q <;> simp only [foldV] at h <;> try (cases h; done)
      have hu := (hv 0 (by simp)).int_inv
      simp at hu; subst hu
      obtain ⟨r, hr, hp⟩ := zpk w l vs k _ p h (by simpa using hl) (fun j hj => by have := hv (j + 1) (by simp; omega); simpa using this)
      refine ⟨r, ?_, hp⟩
      simp only [List.foldlM_cons, Sem.run_bind, Builtin.min2, Sem.run_pure, Result.andThen_ok]
      exact hr
theorem run_lenV {t u : TypeId} {x p : PV} {rs : List Id} {v : Value} (w : World) (h : lenV P t x E.σ = some (p, rs)) (hx : VR E x v) : ∃ r, (Builtin.len_ #[t] u #[v]).run P w = .ok r w ∧ VR E p r := by
  unfold lenV at h
  split at h
  · rename_i s hu
    injection h with h; injection h with h1 h2; subst h1
    rw [hx.str_inv]
    exact ⟨_, by simp [Builtin.len_, run_underlying hu]; rfl, .int _ _⟩
  · rename_i e l n hu
    injection h with h; injection h with h1 h2; subst h1
    obtain ⟨A, c, rfl, _⟩ := hx.rd_inv
    exact ⟨_, by simp [Builtin.len_, run_underlying hu]; rfl, .int _ _⟩
  · rename_i e hu
    injection h with h; injection h with h1 h2; subst h1
    rw [hx.nilS_inv]
    exact ⟨_, by simp [Builtin.len_, run_underlying hu]; rfl, .int _ _⟩
  · rename_i e id ver off n sz hu
    cases hl : live E.σ id ver with
    | none => rw [hl] at h; cases h
    | some blk =>
      rw [hl] at h
      injection h with h; injection h with h1 h2; subst h1
      obtain ⟨hb, hv⟩ := zbh hl
      have hs := hx.sl_inv hb hv
      have : ∃ A cap, v = .slice A n cap := by
        unfold SlAt at hs
        split at hs
        · exact ⟨none, 0, by rw [hs.1, hs.2]⟩
        · obtain ⟨cap, e, _⟩ := hs; exact ⟨_, cap, e⟩
      obtain ⟨A, cap, rfl⟩ := this
      exact ⟨_, by simp [Builtin.len_, run_underlying hu]; rfl, .int _ _⟩
  · rename_i m e hu
    injection h with h; injection h with h1 h2; subst h1
    exact ⟨_, by simp [Builtin.len_, run_underlying hu]; rfl, .int _ _⟩
  · cases h
def OptVR (E : Env) : Option PV → Option Value → Prop
  | none, none => True
  | some p, some v => VR E p v
  | _, _ => False
theorem zbd (w : World) (k : IntKind) (i : Int) (y : Nat) (c : BoundsCode) (h : 0 ≤ i ∧ i ≤ y) : (Instr.sliceBound (.int k i) y c).run P w = .ok i.toNat w := by
  simp only [Instr.sliceBound, Sem.run_bind, zcd, Result.andThen_ok, if_pos h, Sem.run_pure]
theorem zcu {b : Bool} {len cap capA : Nat} {lo hi mx : Option PV} {vl vh vm : Option Value} {x y : Nat} (w : World) (h : boundsV len capA lo hi mx = some (x, y)) (hl : OptVR E lo vl) (hh : OptVR E hi vh) (hm : OptVR E mx vm)
    (hcap : capA ≤ cap) (hlen : len ≤ cap) : ∃ m, (Instr.sliceBounds b len cap vl vh vm).run P w = .ok (x, y, m) w ∧ x ≤ y ∧ y ≤ m ∧ m ≤ cap ∧ (y ≤ capA ∨ y ≤ len) := by
  unfold boundsV at h
  split at h
  · cases vm with
    | some _ => exact hm.elim
    | none =>
      split at h
      · rename_i kh hv
        cases vh with
        | none => exact hh.elim
        | some vh =>
          obtain rfl := hh.int_inv
          split at h
          · rename_i hb
            split at h
            · rename_i kl lv
              cases vl with
              | none => exact hl.elim
              | some vl =>
                obtain rfl := hl.int_inv
                split at h
                · rename_i hb2
                  injection h with h; injection h with e1 e2; subst e1; subst e2
                  refine ⟨cap, ?_, by omega, by omega, by omega, by omega⟩
                  simp only [Instr.sliceBounds, Sem.run_bind, Sem.run_pure, Result.andThen_ok, zbd w kh hv cap _ (by omega), zbd w kl lv hv.toNat _ (by omega)]
                · cases h
            · cases vl with
              | some _ => exact hl.elim
              | none =>
                injection h with h; injection h with e1 e2; subst e1; subst e2
                refine ⟨cap, ?_, by omega, by omega, by omega, by omega⟩
                simp only [Instr.sliceBounds, Sem.run_bind, Sem.run_pure, Result.andThen_ok, zbd w kh hv cap _ (by omega)]
            · cases h
          · cases h
      · cases vh with
        | some _ => exact hh.elim
        | none =>
          split at h
          · rename_i kl lv
            cases vl with
            | none => exact hl.elim
            | some vl =>
              obtain rfl := hl.int_inv
              split at h
              · rename_i hb2
                injection h with h; injection h with e1 e2; subst e1; subst e2
                refine ⟨cap, ?_, by omega, by omega, by omega, by omega⟩
                simp only [Instr.sliceBounds, Sem.run_bind, Sem.run_pure, Result.andThen_ok, zbd w kl lv len _ (by omega)]
              · cases h
          · cases vl with
            | some _ => exact hl.elim
            | none =>
              injection h with h; injection h with e1 e2; subst e1; subst e2
              refine ⟨cap, ?_, by omega, by omega, by omega, by omega⟩
              simp only [Instr.sliceBounds, Sem.run_bind, Sem.run_pure, Result.andThen_ok]
          · cases h
      · cases h
  · rename_i km mv
    cases vm with
    | none => exact hm.elim
    | some vm =>
      obtain rfl := hm.int_inv
      split at h
      · rename_i kh hv
        cases vh with
        | none => exact hh.elim
        | some vh =>
          obtain rfl := hh.int_inv
          split at h
          · rename_i hb
            split at h
            · rename_i kl lv
              cases vl with
              | none => exact hl.elim
              | some vl =>
                obtain rfl := hl.int_inv
                split at h
                · rename_i hb2
                  injection h with h; injection h with e1 e2; subst e1; subst e2
                  refine ⟨mv.toNat, ?_, by omega, by omega, by omega, by omega⟩
                  simp only [Instr.sliceBounds, Sem.run_bind, Sem.run_pure, Result.andThen_ok, zbd w km mv cap _ (by omega), zbd w kh hv mv.toNat _ (by omega), zbd w kl lv hv.toNat _ (by omega)]
                · cases h
            · cases vl with
              | some _ => exact hl.elim
              | none =>
                injection h with h; injection h with e1 e2; subst e1; subst e2
                refine ⟨mv.toNat, ?_, by omega, by omega, by omega, by omega⟩
                simp only [Instr.sliceBounds, Sem.run_bind, Sem.run_pure, Result.andThen_ok, zbd w km mv cap _ (by omega), zbd w kh hv mv.toNat _ (by omega)]
            · cases h
          · cases h
      · cases h
  · cases h
theorem run_sliceV {t : TypeId} {x p : PV} {rs : List Id} {v : Value} {lo hi mx : Option PV} {vl vh vm : Option Value} (w : World) (h : sliceV P t x lo hi mx E.σ = some (p, rs)) (hx : VR E x v)
    (hl : OptVR E lo vl) (hh : OptVR E hi vh) (hm : OptVR E mx vm)
    (hblk : ∀ id blk g o, E.σ id = some blk → E.β id = some (g, o) → Room E.w g (o + blk.cells.length)) :
    ∃ r, (Instr.sliceAt t v vl vh vm).run P w = .ok r w ∧ VR E p r := by
  unfold sliceV at h
  split at h
  · rename_i s hu
    rw [hx.str_inv]
    split at h
    · cases h
    · rename_i hmx
      cases mx with
      | some _ => simp at hmx
      | none =>
        cases vm with
        | some _ => exact hm.elim
        | none =>
          cases hb : boundsV s.size s.size lo hi none with
          | none => rw [hb] at h; cases h
          | some ab =>
            obtain ⟨a, b⟩ := ab
            rw [hb] at h
            injection h with h; injection h with e1 e2; subst e1
            obtain ⟨m, hr, _⟩ := zcu (P := P) (b := false) (cap := s.size) w hb hl hh (vm := none) trivial (Nat.le_refl _) (Nat.le_refl _)
            refine ⟨_, ?_, .str _⟩
            simp only [Instr.sliceAt, Instr.slice, Sem.run_bind, run_underlying hu, Result.andThen_ok, Option.isSome_none, Bool.false_eq_true, if_false, hr, Sem.run_pure]
  · rename_i e l n hu
    cases hz : szOf P e with
    | none => rw [hz] at h; cases h
    | some sz =>
      rw [hz] at h
      cases hb : boundsV n n lo hi mx with
      | none => simp [hb] at h
      | some ab =>
        obtain ⟨a, b⟩ := ab
        simp only [hb, Option.bind_some] at h
        split at h
        · rename_i hlen
          injection h with h; injection h with e1 e2; subst e1
          obtain ⟨A, c, rfl, hnc, hc⟩ := hx.rd_inv
          obtain ⟨m, hr, h1, h2, h3, h4⟩ := zcu (P := P) (b := true) (cap := c) w hb hl hh hm hnc hnc
          refine ⟨.slice (if m = a then A else A.map (·.add (a * sz))) (b - a) (m - a), ?_, ?_⟩
          · simp only [Instr.sliceAt, Instr.slice, Sem.run_bind, run_underlying hu, Result.andThen_ok, hr, zav hz, Sem.run_pure]
          · rcases hc with rfl | ⟨ad, us, rfl, hD, c1, c2, c3⟩
            · simp only [List.drop_nil, List.take_nil]; exact .rd0 _ _ _ (by omega)
            · by_cases hma : m = a
              · have : b - a = 0 := by omega
                rw [this, Nat.zero_mul, List.take_zero]
                exact .rd0 _ _ _ (by omega)
              · rw [if_neg hma]
                have hlt : ∀ j, j < ((l.drop (a * sz)).take ((b - a) * sz)).length → a * sz + j < l.length ∧ j < (b - a) * sz := by
                  intro j hj; simp at hj; omega
                refine .rd _ _ _ _ (fun j => us (a * sz + j)) (by omega) (by rw [zgd]; exact hD) (fun j hj => ?_) (fun j hj => ?_) fun j hj => ?_
                · rw [zet]; exact c1 _ (hlt j hj).1
                · rw [zcn _ _ _ (hlt j hj).2, zco]; exact c2 _ (hlt j hj).1
                · exact c3 _ (hlt j hj).1
        · cases h
  · rename_i e id ver off n sz' hu
    cases hz : szOf P e with
    | none => rw [hz] at h; cases h
    | some sz =>
      rw [hz] at h
      simp only [Option.bind_some] at h
      split at h
      · rename_i hsz
        subst hsz
        cases hb : boundsV n n lo hi mx with
        | none => simp [hb] at h
        | some ab =>
          obtain ⟨a, b⟩ := ab
          simp only [hb, Option.bind_some] at h
          split at h
          · rename_i hab
            cases hlv : live E.σ id ver with
            | none => rw [hlv] at h; cases h
            | some blk =>
              rw [hlv] at h
              injection h with h; injection h with e1 e2; subst e1
              obtain ⟨hbk, hv⟩ := zbh hlv
              have hs := hx.sl_inv hbk hv
              unfold SlAt at hs
              split at hs
              · rename_i hβ
                obtain ⟨rfl, hn⟩ := hs
                subst hn
                obtain ⟨m, hr, h1, h2, h3, h4⟩ := zcu (P := P) (b := true) (cap := 0) w hb hl hh hm (Nat.le_refl _) (Nat.le_refl _)
                have ha : a = 0 := by omega
                have hb0 : b = 0 := by omega
                have hm0 : m = 0 := by omega
                subst ha; subst hb0; subst hm0
                refine ⟨.slice none 0 0, ?_, .sl id ver _ _ _ _ blk hbk (by omega) (fun _ => ?_) rfl⟩
                · simp only [Instr.sliceAt, Instr.slice, Sem.run_bind, run_underlying hu, Result.andThen_ok, hr, zav hz, Sem.run_pure, if_true, Nat.sub_self]
                · rw [hβ]; exact ⟨rfl, rfl⟩
              · rename_i g o hβ
                obtain ⟨cap, rfl, k2, k3, k4⟩ := hs
                obtain ⟨m, hr, h1, h2, h3, h4⟩ := zcu (P := P) (b := true) (cap := cap) w hb hl hh hm k2 k2
                refine ⟨.slice (if m = a then some ⟨g, o + off, none⟩ else (some ⟨g, o + off, none⟩ : Option Addr).map (·.add (a * sz))) (b - a) (m - a), ?_, .sl id ver _ _ _ _ blk hbk (by omega) (fun _ => ?_) rfl⟩
                · simp only [Instr.sliceAt, Instr.slice, Sem.run_bind, run_underlying hu, Result.andThen_ok, hr, zav hz, Sem.run_pure]
                · rw [hβ]
                  refine ⟨m - a, ?_, by omega, by omega, ?_⟩
                  · congr 1
                    by_cases hma : m = a
                    · have : a = 0 := by omega
                      subst this
                      simp [hma]
                    · rw [if_neg hma, Option.map_some, add_lit, Nat.add_assoc]
                  · obtain ⟨cc, t', fz, q1, q2⟩ := k4
                    refine ⟨cc, t', fz, q1, Nat.le_trans ?_ q2⟩
                    have : (m - a) * sz + a * sz ≤ cap * sz := by rw [← Nat.add_mul]; exact Nat.mul_le_mul_right _ (by omega)
                    omega
          · cases h
      · cases h
  · rename_i e hu
    cases hb : boundsV 0 0 lo hi mx with
    | none => cases hz : szOf P e <;> simp [hz, hb] at h
    | some ab =>
      obtain ⟨a, b⟩ := ab
      rw [hb] at h
      rw [hx.nilS_inv]
      obtain ⟨m, hr, h1, h2, h3, h4⟩ := zcu (P := P) (b := true) (cap := 0) w hb hl hh hm (Nat.le_refl _) (Nat.le_refl _)
      have ha : a = 0 := by omega
      have hb0 : b = 0 := by omega
      have hm0 : m = 0 := by omega
      subst ha; subst hb0; subst hm0
      cases hz : szOf P e with
      | none => rw [hz] at h; cases h
      | some sz =>
        rw [hz] at h
        injection h with h; injection h with e1 e2; subst e1
        refine ⟨.slice none 0 0, ?_, .nilS⟩
        simp only [Instr.sliceAt, Instr.slice, Sem.run_bind, run_underlying hu, Result.andThen_ok, hr, zav hz, Sem.run_pure, if_true, Nat.sub_self]
  · rename_i mm e id ver off hu
    cases hz : szOf P e with
    | none => rw [hz] at h; cases h
    | some sz =>
      rw [hz] at h
      cases hb : boundsV mm mm lo hi mx with
      | none => simp [hb] at h
      | some ab =>
        obtain ⟨a, b⟩ := ab
        simp only [hb, Option.bind_some] at h
        cases hlv : live E.σ id ver with
        | none => rw [hlv] at h; cases h
        | some blk =>
          rw [hlv] at h
          simp only [Option.bind_some] at h
          split at h
          · rename_i hc
            obtain ⟨k1, k2, hab⟩ := hc
            injection h with h; injection h with e1 e2; subst e1
            obtain ⟨hbk, hv⟩ := zbh hlv
            obtain ⟨g, o, hβ, rfl⟩ := hx.pt_inv hbk hv
            obtain ⟨m, hr, h1, h2, h3, h4⟩ := zcu (P := P) (b := false) (cap := mm) w hb hl hh hm (Nat.le_refl _) (Nat.le_refl _)
            refine ⟨.slice (some (if m = a then ⟨g, o + off, none⟩ else (⟨g, o + off, none⟩ : Addr).add (a * sz))) (b - a) (m - a), ?_, .sl id ver _ _ _ _ blk hbk (by omega) (fun _ => ?_) rfl⟩
            · simp only [Instr.sliceAt, Instr.sureAddr, Sem.run_bind, run_underlying hu, Result.andThen_ok, hr, zav hz, Sem.run_pure]
            · rw [hβ]
              refine ⟨m - a, ?_, by omega, by simp only [maxLen]; omega, ?_⟩
              · congr 2
                by_cases hma : m = a
                · have : a = 0 := by omega
                  subst this
                  simp [hma]
                · rw [if_neg hma, add_lit, Nat.add_assoc]
              · obtain ⟨cc, t', fz, q1, q2⟩ := hblk id blk g o hbk hβ
                refine ⟨cc, t', fz, q1, Nat.le_trans ?_ q2⟩
                have : (m - a) * sz + a * sz ≤ mm * sz := by rw [← Nat.add_mul]; exact Nat.mul_le_mul_right _ (by omega)
                omega
          · cases h
  · cases h
/-! ### build -/
theorem zkr (off : Nat) : ∀ (l : List Value) (k : Nat) (cs : Array Value), off + k + l.length ≤ cs.size →
    ((l.zipIdx k).foldl (fun cs x => cs.setIfInBounds (off + x.2) x.1) cs).size = cs.size ∧
    ∀ i, ((l.zipIdx k).foldl (fun cs x => cs.setIfInBounds (off + x.2) x.1) cs).getD i undef = if off + k ≤ i ∧ i < off + k + l.length then l.getD (i - (off + k)) undef else cs.getD i undef
  | [], k, cs, _ => by simp; intro i h1 h2; omega
  | v :: l, k, cs, h => by
    simp only [List.length_cons] at h
    obtain ⟨h1, h2⟩ := zkr off l (k + 1) (cs.setIfInBounds (off + k) v) (by simp; omega)
    simp only [List.zipIdx_cons, List.foldl_cons]
    refine ⟨by rw [h1]; simp, fun i => ?_⟩
    rw [h2 i, zdj _ _ _ _ _ (by omega)]
    simp only [List.length_cons]
    by_cases e : i = off + k
    · subst e
      rw [if_neg (by omega), if_pos rfl, if_pos (by omega)]
      simp
    · by_cases hi : off + (k + 1) ≤ i ∧ i < off + (k + 1) + l.length
      · rw [if_pos hi, if_pos (by omega)]
        have : i - (off + k) = (i - (off + (k + 1))) + 1 := by omega
        rw [this]
        simp [List.getD]
      · rw [if_neg hi, if_neg e, if_neg (by omega)]
def Cells (E : Env) (l : List PV) (cs : Array Value) : Prop :=
  cs.size = l.length ∧ (∀ j, j < l.length → VR E (l.getD j .any) (cs.getD j undef)) ∧ (∀ j, j < l.length → (cs.getD j undef).oneCell' = true)
theorem zod (f : Array Value → Value × Nat → Array Value) (xs : Array Value) (cs : Array Value) : xs.zipIdx.foldl f cs = (xs.toList.zipIdx).foldl f cs := by
  rw [← Array.foldl_toList, Array.toList_zipIdx]
theorem zkt {place : Nat → Option (Nat × Nat)} : ∀ (ps : List (Nat × PV)) (vs : List (Nat × Value)) (l L : List PV) (cs : Array Value), fillP place l ps = some L → Cells E l cs →
    vs.length = ps.length → (∀ j, j < ps.length → (vs.getD j (0, undef)).1 = (ps.getD j (0, .any)).1 ∧ VR E (ps.getD j (0, .any)).2 (vs.getD j (0, undef)).2) →
    ∃ cs', Instr.fill place cs vs = some cs' ∧ Cells E L cs'
  | [], vs, l, L, cs, h, hc, hl, _ => by
    obtain rfl : vs = [] := List.eq_nil_of_length_eq_zero hl
    injection h with h; subst h
    exact ⟨cs, rfl, hc⟩
  | (i, p) :: ps, vs, l, L, cs, h, hc, hl, hv => by
    cases vs with
    | nil => cases hl
    | cons v vs =>
      obtain ⟨i', v⟩ := v
      obtain ⟨e, hp⟩ := hv 0 (by simp)
      simp at e hp
      subst e
      simp only [fillP] at h
      split at h
      · cases h
      · rename_i off size hpl
        split at h
        · rename_i hcond
          simp at hcond
          obtain ⟨⟨c1, c2⟩, c3⟩ := hcond
          obtain ⟨v1, v2, v3⟩ := hp.cells c1
          obtain ⟨k1, k2, k3⟩ := hc
          obtain ⟨f1, f2⟩ := zkr off v.cells.toList 0 cs (by simp; omega)
          have hcs : Cells E (l.take off ++ cellsOf p ++ l.drop (off + size)) ((v.cells.toList.zipIdx).foldl (fun cs x => cs.setIfInBounds (off + x.2) x.1) cs) := by
            have hget : ∀ j, (l.take off ++ cellsOf p ++ l.drop (off + size)).getD j .any = if off ≤ j ∧ j < off + size then (cellsOf p).getD (j - off) .any else l.getD j .any := by
              intro j
              simp only [List.getD, List.getElem?_append, List.length_take, List.length_append, List.getElem?_drop, List.getElem?_take]
              by_cases h1 : j < off
              · rw [if_pos (by omega), if_pos (by omega), if_pos h1, if_neg (by omega)]
              · by_cases h2 : j < off + size
                · rw [if_pos (by omega), if_neg (by omega), if_pos (by omega)]
                  congr 2
                  omega
                · rw [if_neg (by omega), if_neg (by omega)]
                  congr 2
                  omega
            have hlen : (l.take off ++ cellsOf p ++ l.drop (off + size)).length = l.length := by simp; omega
            refine ⟨by rw [f1, hlen]; exact k1, fun j hj => ?_, fun j hj => ?_⟩
            · rw [hlen] at hj
              rw [hget, f2]
              by_cases h1 : off ≤ j ∧ j < off + size
              · rw [if_pos h1, if_pos (by simp; omega)]
                have := v2 (j - off) (by omega)
                simpa [Array.getD_eq_getD_getElem?, List.getD] using this
              · rw [if_neg h1, if_neg (by simp; omega)]
                exact k2 j hj
            · rw [hlen] at hj
              rw [f2]
              by_cases h1 : off ≤ j ∧ j < off + size
              · rw [if_pos (by simp; omega)]
                have := v3 (j - off) (by omega)
                simpa [Array.getD_eq_getD_getElem?, List.getD] using this
              · rw [if_neg (by simp; omega)]
                exact k3 j hj
          obtain ⟨cs', e1, e2⟩ := zkt ps vs _ L _ h hcs (by simpa using hl) (fun j hj => by have := hv (j + 1) (by simp; omega); simpa using this)
          refine ⟨cs', ?_, e2⟩
          simp only [Instr.fill, hpl]
          rw [if_neg (by simp; omega), zod]
          exact e1
        · cases h
theorem zcx {t : TypeId} {z : List PV} (h : zeroOf P t = some z) (hz : z.all leafB = true) (w : World) : ∃ v, (zeroValue t).run P w = .ok v w ∧ Cells E z v.cells := by
  unfold zeroOf at h
  cases hi : P.info? t with
  | none => rw [hi] at h; cases h
  | some i =>
    rw [hi] at h
    cases hv : i.zero with
    | none => simp [hv] at h
    | some v =>
      simp [hv] at h
      refine ⟨v, by simp [zeroValue, typeInfo, hi, hv], ?_⟩
      subst h
      have hvr : ∀ j, j < (v.cells.toList.map ofConst).length → VR E ((v.cells.toList.map ofConst).getD j .any) (v.cells.getD j undef) := by
        intro j hj
        simp at hj
        have : (v.cells.toList.map ofConst).getD j .any = ofConst (v.cells.getD j undef) := by simp [List.getD, Array.getD, hj]
        rw [this]
        exact zol E _
      refine ⟨by simp, hvr, fun j hj => ?_⟩
      refine (hvr j hj).leaf_one ?_
      simp only [List.all_eq_true] at hz
      have hm := hz ((v.cells.toList.map ofConst).getD j .any) (by
        simp only [List.getD, List.getElem?_eq_getElem hj, Option.getD_some]
        exact List.getElem_mem hj)
      exact hm
theorem ziw (w : World) : ∀ (fs : List Field), fs.all (fun f => (szOf P f.type).isSome) = true →
    (fs.mapM (m := Sem) fun f => do pure (f.offset, ← sizeOf f.type)).run P w = .ok (fs.map fun f => (f.offset, (szOf P f.type).getD 0)) w
  | [], _ => rfl
  | f :: fs, h => by
    simp only [List.all_cons, Bool.and_eq_true] at h
    obtain ⟨n, hn⟩ := Option.isSome_iff_exists.1 h.1
    have ih := ziw w fs h.2
    simp only [List.mapM_cons, Sem.run_bind, zav hn, Result.andThen_ok, Sem.run_pure, ih, List.map_cons, hn, Option.getD_some]
theorem zej {f : Nat → PV} {a : Act} (h : ∀ t, VR E (f t) (a.tmps.getD t undef)) : ∀ (ps : List (Nat × Operand)),
    (allParts (pv f) ps).length = ps.length ∧ ∀ j, j < ps.length → ((ps.map fun x => (x.1, a.eval x.2)).getD j (0, undef)).1 = ((allParts (pv f) ps).getD j (0, .any)).1 ∧ VR E ((allParts (pv f) ps).getD j (0, .any)).2 ((ps.map fun x => (x.1, a.eval x.2)).getD j (0, undef)).2
  | [] => ⟨rfl, by simp⟩
  | (i, x) :: r => by
    obtain ⟨h1, h2⟩ := zej h r
    refine ⟨by simp [allParts, h1], fun j hj => ?_⟩
    cases j with
    | zero => simp [allParts]; exact zbs h x
    | succ j => have := h2 j (by simpa using hj); simpa [allParts] using this
theorem run_buildV {t : TypeId} {ps : List (Nat × PV)} {vs : Array (Nat × Value)} {p : PV} (w : World) (h : buildV P t ps = some p) (hl : vs.toList.length = ps.length)
    (hv : ∀ j, j < ps.length → (vs.toList.getD j (0, undef)).1 = (ps.getD j (0, .any)).1 ∧ VR E (ps.getD j (0, .any)).2 (vs.toList.getD j (0, undef)).2) :
    ∃ r, (Instr.build t vs).run P w = .ok r w ∧ VR E p r := by
  unfold buildV at h
  split at h
  · rename_i fs z hu hz
    split at h
    · rename_i hc
      simp only [Bool.and_eq_true] at hc
      obtain ⟨v0, hr0, hc0⟩ := zcx (E := E) hz hc.1 w
      cases hf : fillP (placeS P fs) z ps with
      | none => rw [hf] at h; cases h
      | some L =>
        rw [hf] at h; injection h with h; subst h
        have hpl : (fun i => ((fs.toList.map fun f => (f.offset, (szOf P f.type).getD 0)).toArray)[i]?) = placeS P fs := by
          funext i
          simp only [placeS]
          cases hfi : fs[i]? with
          | none => simp [hfi]
          | some f =>
            simp [hfi]
            have hm : (szOf P f.type).isSome = true := by
              have := List.all_eq_true.1 hc.2 f (by simpa using Array.mem_of_getElem? hfi)
              exact this
            obtain ⟨n, hn⟩ := Option.isSome_iff_exists.1 hm
            simp [hn]
        obtain ⟨cs', e1, e2⟩ := zkt ps vs.toList z L v0.cells hf hc0 hl hv
        refine ⟨.agg cs', ?_, .agg _ _ e2.1 e2.2.1 e2.2.2⟩
        have hm : (fs.mapM (m := Sem) fun f => do pure (f.offset, ← sizeOf f.type)).run P w = .ok ((fs.toList.map fun f => (f.offset, (szOf P f.type).getD 0)).toArray) w := by
          rw [Array.mapM_eq_mapM_toList, Sem.run_map, ziw w _ hc.2]
          rfl
        simp only [Instr.build, Sem.run_bind, hr0, Result.andThen_ok, run_underlying hu, hm, hpl, e1, Sem.run_pure]
    · cases h
  · rename_i m e z hu hz
    split at h
    · rename_i hc
      obtain ⟨v0, hr0, hc0⟩ := zcx (E := E) hz hc w
      cases hs : szOf P e with
      | none => rw [hs] at h; cases h
      | some sz =>
        rw [hs] at h
        simp only [Option.bind_some] at h
        cases hf : fillP (fun i => some (i * sz, sz)) z ps with
        | none => rw [hf] at h; cases h
        | some L =>
          rw [hf] at h; injection h with h; subst h
          obtain ⟨cs', e1, e2⟩ := zkt ps vs.toList z L v0.cells hf hc0 hl hv
          refine ⟨.agg cs', ?_, .agg _ _ e2.1 e2.2.1 e2.2.2⟩
          simp only [Instr.build, Sem.run_bind, hr0, Result.andThen_ok, run_underlying hu, zav hs, e1, Sem.run_pure]
    · cases h
  · cases h
end
end Go.Proofs.YthgldcflcmlgpaaGreatDoorE
end
section
/- One theorem for all operations that only make a value; and what they hang on. -/
set_option linter.unusedVariables false
set_option linter.unusedSimpArgs false
namespace Go.Proofs.YthgldcflcmlgpaaGreatDoorE
open Go.RowKit
section
variable {P : Program} {E : Env}
theorem zrm {f : Nat → PV} {a : Act} (h : ∀ t, VR E (f t) (a.tmps.getD t undef)) (x : Option Operand) : OptVR E (x.map (pv f)) (x.map a.eval) := by
  cases x with
  | none => trivial
  | some x => exact zbs h x
theorem zpu {f : Nat → PV} {a : Act} (h : ∀ t, VR E (f t) (a.tmps.getD t undef)) (l : List Operand) : ∀ j, j < (l.map (pv f)).length → VR E ((l.map (pv f)).getD j .any) ((l.map a.eval).getD j undef) := by
  intro j hj
  simp at hj
  simp only [List.getD, List.getElem?_map, List.getElem?_eq_getElem hj, Option.map_some, Option.getD_some]
  exact zbs h _
theorem zro {f : Nat → PV} {a : Act} (h : ∀ t, VR E (f t) (a.tmps.getD t undef)) (l : Array Operand) : ∀ j, j < (l.toList.map (pv f)).length → VR E ((l.toList.map (pv f)).getD j .any) ((l.map a.eval).getD j undef) := by
  intro j hj
  have := zpu h l.toList j hj
  rw [← Array.toList_map] at this
  simpa [Array.getD_eq_getD_getElem?, List.getD] using this
theorem zdd {o : Oper} {a : Act} {w w' : World} {b : Builtin} {args : Array Operand} {at_ : Array TypeId} {v : Value} (ho : o.op = .call { callee := .builtin b, args := args, argTypes := at_ })
    (h : (builtin b at_ o.type (args.map fun | .const _ => true | _ => false) (args.map a.eval)).run P w = .ok (.value v) w') : (execOp a.eval o).run P w = .ok (.value v) w' := by
  unfold execOp
  simp only [ho, resolve, Sem.run_bind, Sem.run_pure, Result.andThen_ok, invoke]
  exact h
theorem run_evalV {o : Oper} {f : Nat → PV} {a : Act} (w : World) {p : PV} {rs : List Id} (h : evalV P o.op (pv f) E.σ = some (p, rs)) (hf : ∀ t, VR E (f t) (a.tmps.getD t undef))
    (hblk : ∀ id blk g o, E.σ id = some blk → E.β id = some (g, o) → Room E.w g (o + blk.cells.length)) :
    ∃ v, (execOp a.eval o).run P w = .ok (.value v) w ∧ VR E p v := by
  unfold evalV at h
  split at h
  · rename_i x ho
    injection h with h; injection h with h1 h2; subst h1
    exact ⟨_, by simp only [execOp, ho, Sem.run_pure], zbs hf x⟩
  · rename_i x ho
    injection h with h; injection h with h1 h2; subst h1
    exact ⟨_, by simp only [execOp, ho, Sem.run_pure], zbs hf x⟩
  · rename_i c x y ho
    split at h
    · rename_i t hc
      injection h with h; injection h with h1 h2; subst h1
      have hcv := zbs hf c
      rw [hc] at hcv
      have hcv := hcv.bool_inv
      refine ⟨if t then a.eval x else a.eval y, by simp only [execOp, ho, hcv, asBool, Sem.run_bind, Sem.run_pure, Result.andThen_ok], ?_⟩
      cases t
      · exact zbs hf y
      · exact zbs hf x
    · cases h
  · rename_i x ho
    have hx := zbs hf x
    split at h
    · rename_i id ver off hp
      cases hl : live E.σ id ver with
      | none => rw [hl] at h; cases h
      | some blk =>
        rw [hl] at h; injection h with h; injection h with h1 h2; subst h1
        rw [hp] at hx
        obtain ⟨ad, hv, hp2⟩ := zpt 0 hl hx
        exact ⟨a.eval x, by simp only [execOp, ho, hv, Sem.run_pure], hx⟩
    · rename_i l hp
      injection h with h; injection h with h1 h2; subst h1
      rw [hp] at hx
      obtain ⟨ad, us, hv, _⟩ := hx.rp_inv
      exact ⟨a.eval x, by simp only [execOp, ho, hv, Sem.run_pure], hx⟩
    · cases h
  · rename_i op t x y yt ho
    cases hb : binV P op t (pv f x) (pv f y) with
    | none => rw [hb] at h; cases h
    | some q =>
      rw [hb] at h; injection h with h; injection h with h1 h2; subst h1
      obtain ⟨r, hr, hv⟩ := run_binV (w := w) (X := x) (Y := y) hb (zbs hf x) (zbs hf y)
      exact ⟨r, by simp only [execOp, ho]; rw [Sem.run_bind, hr]; rfl, hv⟩
  · rename_i op t x ho
    cases hb : unV op (pv f x) with
    | none => rw [hb] at h; cases h
    | some q =>
      rw [hb] at h; injection h with h; injection h with h1 h2; subst h1
      obtain ⟨r, hr, hv⟩ := run_unV (P := P) w hb (zbs hf x)
      exact ⟨r, by simp only [execOp, ho, Sem.run_bind, hr, Sem.run_pure, Result.andThen_ok], hv⟩
  · rename_i s d x ho
    cases hb : convV P s d (pv f x) with
    | none => rw [hb] at h; cases h
    | some q =>
      rw [hb] at h; injection h with h; injection h with h1 h2; subst h1
      obtain ⟨r, hr, hv⟩ := run_convV w hb (zbs hf x)
      exact ⟨r, by simp only [execOp, ho, Sem.run_bind, hr, Sem.run_pure, Result.andThen_ok], hv⟩
  · rename_i t ps ho
    cases hb : buildV P t (allParts (pv f) ps.toList) with
    | none => rw [hb] at h; cases h
    | some q =>
      rw [hb] at h; injection h with h; injection h with h1 h2; subst h1
      obtain ⟨k1, k2⟩ := zej hf ps.toList
      obtain ⟨r, hr, hv⟩ := run_buildV (vs := ps.map fun (i, x) => (i, a.eval x)) w hb (by simp [k1]) (fun j hj => by have := k2 j (by omega); simpa using this)
      exact ⟨r, by simp only [execOp, ho, Sem.run_bind, hr, Sem.run_pure, Result.andThen_ok], hv⟩
  · rename_i t x fi ho
    cases hb : fieldV P t (pv f x) fi with
    | none => rw [hb] at h; cases h
    | some q =>
      rw [hb] at h; injection h with h; injection h with h1 h2; subst h1
      obtain ⟨r, hr, hv⟩ := run_fieldV w hb (zbs hf x)
      exact ⟨r, by simp only [execOp, ho, Sem.run_bind, hr, Sem.run_pure, Result.andThen_ok], hv⟩
  · rename_i x i ho
    cases hb : extractV (pv f x) i with
    | none => rw [hb] at h; cases h
    | some q =>
      rw [hb] at h; injection h with h; injection h with h1 h2; subst h1
      obtain ⟨r, hr, hv⟩ := run_extractV (P := P) w hb (zbs hf x)
      exact ⟨r, by simp only [execOp, ho, Sem.run_bind, hr, Sem.run_pure, Result.andThen_ok], hv⟩
  · rename_i s x fi ho
    obtain ⟨r, hr, hv⟩ := run_fieldAddrV w h (zbs hf x)
    exact ⟨r, by simp only [execOp, ho, Sem.run_bind, hr, Sem.run_pure, Result.andThen_ok], hv⟩
  · rename_i t x i ho
    split at h
    · rename_i k n hi
      have hiv := zbs hf i
      rw [hi] at hiv
      obtain ⟨r, hr, hv⟩ := run_idxV (k := k) w h (zbs hf x)
      exact ⟨r, by simp only [execOp, ho, hiv.int_inv, Sem.run_bind, hr, Sem.run_pure, Result.andThen_ok], hv⟩
    · cases h
  · rename_i t x i ho
    split at h
    · rename_i k n hi
      have hiv := zbs hf i
      rw [hi] at hiv
      cases hb : indexV P t (pv f x) n with
      | none => rw [hb] at h; cases h
      | some q =>
        rw [hb] at h; injection h with h; injection h with h1 h2; subst h1
        obtain ⟨r, hr, hv⟩ := run_indexV (k := k) w hb (zbs hf x)
        exact ⟨r, by simp only [execOp, ho, hiv.int_inv, Sem.run_bind, hr, Sem.run_pure, Result.andThen_ok], hv⟩
    · cases h
  · rename_i t x lo hi mx ho
    obtain ⟨r, hr, hv⟩ := run_sliceV w h (zbs hf x) (zrm hf lo) (zrm hf hi) (zrm hf mx) hblk
    exact ⟨r, by simp only [execOp, ho, Sem.run_bind, hr, Sem.run_pure, Result.andThen_ok], hv⟩
  · rename_i fn fi ca ho
    injection h with h; injection h with h1 h2; subst h1
    refine ⟨.func (.func fn) (fi.map a.eval) (ca.map a.eval), by simp only [execOp, ho, Instr.makeFunc, Sem.run_bind, Sem.run_pure, Result.andThen_ok], ?_⟩
    refine .fn _ _ _ _ _ (by simp) (by simp) (fun j hj => zro hf fi j hj) (fun j hj => zro hf ca j hj)
  · rename_i args at_ ho
    split at h
    · rename_i x t hx ht
      obtain ⟨r, hr, hv⟩ := run_lenV (u := o.type) w h (zbs hf x)
      refine ⟨r, zdd ho ?_, hv⟩
      obtain rfl : args = #[x] := by cases args; simpa using hx
      obtain rfl : at_ = #[t] := by cases at_; simpa using ht
      simp only [builtin, Sem.run_bind, List.map_toArray, List.map_cons, List.map_nil, hr, Result.andThen_ok, Sem.run_pure]
    · cases h
  · rename_i args at_ ho
    split at h
    · rename_i k x r0 hx
      cases hb : foldV mx2 k x r0 with
      | none => rw [hb] at h; cases h
      | some q =>
        rw [hb] at h; injection h with h; injection h with h1 h2; subst h1
        have hall := zpu hf args.toList
        rw [hx] at hall
        cases hvs : args.toList.map a.eval with
        | nil => have e1 := congrArg List.length hx; have e2 := congrArg List.length hvs; simp only [List.length_map, List.length_cons, List.length_nil] at e1 e2; omega
        | cons v vs =>
          rw [hvs] at hall
          have h0 := (hall 0 (by simp)).int_inv
          simp at h0; subst h0
          obtain ⟨r, hr, hv⟩ := zpl (P := P) (E := E) w r0 vs k x q hb (by have e1 := congrArg List.length hx; have e2 := congrArg List.length hvs; simp only [List.length_map, List.length_cons] at e1 e2; omega) (fun j hj => by have := hall (j + 1) (by simp; omega); simpa using this)
          refine ⟨r, zdd ho ?_, hv⟩
          simp only [builtin, Sem.run_bind, Builtin.max_, Array.toList_map, hvs, hr, Result.andThen_ok, Sem.run_pure]
    · cases h
  · rename_i args at_ ho
    split at h
    · rename_i k x r0 hx
      cases hb : foldV mn2 k x r0 with
      | none => rw [hb] at h; cases h
      | some q =>
        rw [hb] at h; injection h with h; injection h with h1 h2; subst h1
        have hall := zpu hf args.toList
        rw [hx] at hall
        cases hvs : args.toList.map a.eval with
        | nil => have e1 := congrArg List.length hx; have e2 := congrArg List.length hvs; simp only [List.length_map, List.length_cons, List.length_nil] at e1 e2; omega
        | cons v vs =>
          rw [hvs] at hall
          have h0 := (hall 0 (by simp)).int_inv
          simp at h0; subst h0
          obtain ⟨r, hr, hv⟩ := zpk (P := P) (E := E) w r0 vs k x q hb (by have e1 := congrArg List.length hx; have e2 := congrArg List.length hvs; simp only [List.length_map, List.length_cons] at e1 e2; omega) (fun j hj => by have := hall (j + 1) (by simp; omega); simpa using this)
          refine ⟨r, zdd ho ?_, hv⟩
          simp only [builtin, Sem.run_bind, Builtin.min_, Array.toList_map, hvs, hr, Result.andThen_ok, Sem.run_pure]
    · cases h
  · cases h
/-! ### what it hangs on -/
theorem zbf {σ σ' : Id → Option Blk} {id : Id} {ver : Nat} (h : σ' id = σ id) : live σ' id ver = live σ id ver := by simp [live, h]
theorem zbp {α : Type} {σ σ' : Id → Option Blk} {id : Id} {ver : Nat} {x : α} {p : PV} {rs : List Id} {g : PV} (h : ((live σ id ver).map fun _ => (g, [id])) = some (p, rs)) (hs : ∀ id ∈ rs, σ' id = σ id) :
    ((live σ' id ver).map fun _ => (g, [id])) = some (p, rs) := by
  have : rs = [id] := by
    cases hl : live σ id ver with
    | none => rw [hl] at h; cases h
    | some b => rw [hl] at h; injection h with h; injection h with h1 h2; exact h2.symm
  rw [zbf (hs id (by simp [this]))]
  exact h
theorem idxV_congr {t : TypeId} {x p : PV} {i : Int} {σ σ' : Id → Option Blk} {rs : List Id} (h : idxV P t x i σ = some (p, rs)) (hs : ∀ id ∈ rs, σ' id = σ id) : idxV P t x i σ' = some (p, rs) := by
  unfold idxV at *
  split at h
  · exact h
  · cases hz : szOf P _ with
    | none => rw [hz] at h; cases h
    | some sz =>
      rw [hz] at h
      simp only [Option.bind_some] at *
      split at h
      · rename_i hc; rw [if_pos hc]; exact zbp (x := ()) h hs
      · cases h
  · exact h
  · cases hz : szOf P _ with
    | none => rw [hz] at h; cases h
    | some sz =>
      rw [hz] at h
      simp only [Option.bind_some] at *
      split at h
      · rename_i hc; rw [if_pos hc]; exact zbp (x := ()) h hs
      · cases h
  · cases h
theorem fieldAddrV_congr {t : TypeId} {x p : PV} {i : Nat} {σ σ' : Id → Option Blk} {rs : List Id} (h : fieldAddrV P t x i σ = some (p, rs)) (hs : ∀ id ∈ rs, σ' id = σ id) : fieldAddrV P t x i σ' = some (p, rs) := by
  unfold fieldAddrV at *
  split at h
  · split at h
    · split at h
      · exact h
      · exact zbp (x := ()) h hs
      · cases h
    · cases h
  · cases h
theorem lenV_congr {t : TypeId} {x p : PV} {σ σ' : Id → Option Blk} {rs : List Id} (h : lenV P t x σ = some (p, rs)) (hs : ∀ id ∈ rs, σ' id = σ id) : lenV P t x σ' = some (p, rs) := by
  unfold lenV at *
  split at h
  · exact h
  · exact h
  · exact h
  · exact zbp (x := ()) h hs
  · exact h
  · cases h
theorem sliceV_congr {t : TypeId} {x p : PV} {lo hi mx : Option PV} {σ σ' : Id → Option Blk} {rs : List Id} (h : sliceV P t x lo hi mx σ = some (p, rs)) (hs : ∀ id ∈ rs, σ' id = σ id) : sliceV P t x lo hi mx σ' = some (p, rs) := by
  unfold sliceV at *
  split at h
  · exact h
  · exact h
  · cases hz : szOf P _ with
    | none => rw [hz] at h; cases h
    | some sz =>
      rw [hz] at h
      simp only [Option.bind_some] at *
      split at h
      · rename_i hc
        rw [if_pos hc]
        cases hb : boundsV _ _ lo hi mx with
        | none => rw [hb] at h; cases h
        | some ab =>
          rw [hb] at h
          simp only [Option.bind_some] at *
          split at h
          · rename_i hc2; rw [if_pos hc2]; exact zbp (x := ()) h hs
          · cases h
      · cases h
  · exact h
  · rename_i m e id ver off hu
    cases hz : szOf P _ with
    | none => rw [hz] at h; cases h
    | some sz =>
      rw [hz] at h
      simp only [Option.bind_some] at *
      cases hb : boundsV _ _ lo hi mx with
      | none => rw [hb] at h; cases h
      | some ab =>
        rw [hb] at h
        simp only [Option.bind_some] at *
        cases hl : live σ id ver with
        | none => rw [hl] at h; cases h
        | some blk =>
          rw [hl] at h
          simp only [Option.bind_some] at h
          split at h
          · rename_i hc
            injection h with h; injection h with h1 h2
            rw [zbf (hs id (by simp [← h2])), hl]
            simp only [Option.bind_some, if_pos hc, h1, h2]
          · cases h
  · cases h
theorem zdq {ρ ρ' : Operand → PV} : ∀ (ps : List (Nat × Operand)), (∀ x ∈ ps.map (·.2), ρ' x = ρ x) → allParts ρ' ps = allParts ρ ps
  | [], _ => rfl
  | (i, x) :: r, h => by
    simp only [allParts]
    rw [h x (by simp), zdq r (fun y hy => h y (by simp at hy ⊢; exact .inr hy))]
theorem evalV_congr {op : Op} {ρ ρ' : Operand → PV} {σ σ' : Id → Option Blk} {p : PV} {rs : List Id} (h : evalV P op ρ σ = some (p, rs)) (hρ : ∀ x ∈ op.operands, ρ' x = ρ x) (hs : ∀ id ∈ rs, σ' id = σ id) :
    evalV P op ρ' σ' = some (p, rs) := by
  have om : ∀ (x : Option Operand), (∀ y ∈ x.toArray, ρ' y = ρ y) → x.map ρ' = x.map ρ := by
    intro x hx
    cases x with
    | none => rfl
    | some y => simp only [Option.map_some]; rw [hx y (by simp)]
  have lm : ∀ (x : Array Operand), (∀ y ∈ x, ρ' y = ρ y) → x.toList.map ρ' = x.toList.map ρ := fun x hx => List.map_congr_left fun y hy => hx y (by simpa using hy)
  unfold evalV at h
  split at h <;> (try simp only [Op.operands, Call.operands] at hρ) <;> simp only [evalV]
  · rw [hρ _ (by simp)]; exact h
  · rw [hρ _ (by simp)]; exact h
  · rename_i c x y
    simp only [hρ c (by simp), hρ x (by simp), hρ y (by simp)]; exact h
  · rename_i x
    simp only [hρ x (by simp)]
    split at h
    · exact zbp (x := ()) h hs
    · exact h
    · cases h
  · rename_i o t x y _
    simp only [hρ x (by simp), hρ y (by simp)]; exact h
  · rename_i o t x
    simp only [hρ x (by simp)]; exact h
  · rename_i s d x
    simp only [hρ x (by simp)]; exact h
  · rename_i t ps
    rw [zdq ps.toList (fun x hx => hρ x (by simpa using hx))]; exact h
  · rename_i t x i
    simp only [hρ x (by simp)]; exact h
  · rename_i x i
    simp only [hρ x (by simp)]; exact h
  · rename_i s x i
    simp only [hρ x (by simp)]; exact fieldAddrV_congr h hs
  · rename_i t x i
    simp only [hρ x (by simp), hρ i (by simp)]
    split at h
    · exact idxV_congr h hs
    · cases h
  · rename_i t x i
    simp only [hρ x (by simp), hρ i (by simp)]
    split at h
    · exact h
    · cases h
  · rename_i t x lo hi mx
    rw [hρ x (by simp), om lo (fun y hy => hρ y (by simp at hy ⊢; simp [hy])), om hi (fun y hy => hρ y (by simp at hy ⊢; simp [hy])), om mx (fun y hy => hρ y (by simp at hy ⊢; simp [hy]))]
    exact sliceV_congr h hs
  · rename_i fn fi ca
    rw [lm fi (fun y hy => hρ y (by simp [hy])), lm ca (fun y hy => hρ y (by simp [hy]))]; exact h
  · rename_i args at_
    split at h
    · rename_i x t hx ht
      have hx' : x ∈ args := by
        have : x ∈ args.toList := by rw [hx]; simp
        simpa using this
      simp only [hρ x (by simp [hx'])]
      exact lenV_congr h hs
    · cases h
  · rename_i args at_
    rw [lm args (fun y hy => hρ y (by simp [hy]))]; exact h
  · rename_i args at_
    rw [lm args (fun y hy => hρ y (by simp [hy]))]; exact h
  · cases h
end
end Go.Proofs.YthgldcflcmlgpaaGreatDoorE
end
section
/- Operations that read or write memory. -/
set_option linter.unusedVariables false
set_option linter.unusedSimpArgs false
namespace Go.Proofs.YthgldcflcmlgpaaGreatDoorE
open Go.RowKit
section
variable {P : Program} {E : Env}
def loadL (b : Bool) (sz : Nat) (l : List PV) : Option PV :=
  if b = true then (if sz ≤ l.length then some (.agg (l.take sz)) else none) else l[0]?
def evalL (P : Program) (op : Op) (ρ : Operand → PV) (σ : Id → Option Blk) : Option (PV × List Id) :=
  match op with
  | .load t x =>
    match aggOf P t, szOf P t, ρ x with
    | some b, some sz, .rp l => (loadL b sz l).map fun p => (p, [])
    | some b, some sz, .pt id ver off => (live σ id ver).bind fun blk => (loadL b sz (blk.cells.drop off)).map fun p => (p, [id])
    | _, _, _ => none
  | _ => none
def At (E : Env) (l : List PV) (a : Addr) : Prop :=
  ∃ us : Nat → Value, (∀ j, j < l.length → E.w.cell? (a.add j) = some (us j)) ∧ (∀ j, j < l.length → VR E (l.getD j .any) (us j)) ∧ (∀ j, j < l.length → (us j).oneCell' = true)
theorem zht {t : TypeId} {b : Bool} {sz : Nat} {l : List PV} {p : PV} {a : Addr} (h : loadL b sz l = some p) (ha : aggOf P t = some b) (hz : szOf P t = some sz) (hA : At E l a) :
    ∃ v, (loadVar t a).run P E.w = .ok v E.w ∧ VR E p v := by
  obtain ⟨us, h1, h2, h3⟩ := hA
  unfold loadL at h
  split at h
  · rename_i hb
    subst hb
    split at h
    · rename_i hl
      injection h with h; subst h
      refine ⟨.agg ((List.range sz).map us).toArray, ?_, .agg _ _ (by simp; omega) (fun j hj => ?_) fun j hj => ?_⟩
      · simp only [loadVar, Sem.run_bind, zfp ha, Result.andThen_ok, if_true, zav hz, run_loadCells E.w a sz us (fun j hj => h1 j (by omega)), Sem.run_pure]
      · simp at hj
        rw [zcn _ _ _ (by omega)]
        have := h2 j (by omega)
        simpa [Array.getD_eq_getD_getElem?, show j < sz by omega] using this
      · simp at hj
        have := h3 j (by omega)
        simpa [Array.getD_eq_getD_getElem?, show j < sz by omega] using this
    · cases h
  · rename_i hb
    have hb' : b = false := by simpa using hb
    subst hb'
    obtain ⟨hl, _⟩ := List.getElem?_eq_some_iff.1 h
    have c0 := h1 0 hl
    have v0 := h2 0 hl
    rw [getD_of_getElem? h] at v0
    refine ⟨us 0, ?_, v0⟩
    have c0' : E.w.cell? a = some (us 0) := by simpa [Addr.add] using c0
    simp only [loadVar, Sem.run_bind, zfp ha, Result.andThen_ok, Bool.false_eq_true, if_false, run_load, c0']
theorem At.rp {l : List PV} {v : Value} (h : VR E (.rp l) v) : ∃ a, v = .pointer (some a) ∧ At E l a := by
  obtain ⟨a, us, rfl, _, h1, h2, h3⟩ := h.rp_inv
  exact ⟨a, rfl, us, h1, fun j hj => (h2 j hj).of_bare, h3⟩
structure BlkAt (E : Env) (blk : Blk) (g o : Nat) (c : Array Value) (e : TypeId) (fz : Nat × Nat) : Prop where
  heap : E.w.heap[g]? = some (.cells c e fz)
  own : blk.own = true → fz = (0, 0)
  size : o + blk.cells.length ≤ c.size
  cell : ∀ j, j < blk.cells.length → VR (if blk.flat then E.bare else E) (blk.cells.getD j .any) (c.getD (o + j) undef)
  one : ∀ j, j < blk.cells.length → (c.getD (o + j) undef).oneCell' = true
theorem BlkAt.cell' {blk : Blk} {g o : Nat} {c : Array Value} {e : TypeId} {fz : Nat × Nat} (h : BlkAt E blk g o c e fz) (j : Nat) (hj : j < blk.cells.length) : VR E (blk.cells.getD j .any) (c.getD (o + j) undef) := by
  have := h.cell j hj
  split at this
  · exact this.of_bare
  · exact this
theorem BlkRel.at_ {B : Nat} {I : Id → Nat → Prop} {id : Id} {blk : Blk} {g o : Nat} (h : BlkRel E B I id blk) (hb : E.β id = some (g, o)) :
    (B ≤ g ∨ (id.d = 0 ∧ id.g = 0 ∧ I id g)) ∧ ∃ c e fz, BlkAt E blk g o c e fz := by
  unfold BlkRel at h
  rw [hb] at h
  obtain ⟨h0, c, e, fz, h1, h2, h3, h4⟩ := h
  exact ⟨h0, c, e, fz, h1, h2, h3, fun j hj => (h4 j hj).1, fun j hj => (h4 j hj).2⟩
theorem BlkAt.rel {B : Nat} {I : Id → Nat → Prop} {id : Id} {blk : Blk} {g o : Nat} {c : Array Value} {e : TypeId} {fz : Nat × Nat} (h : BlkAt E blk g o c e fz) (hb : E.β id = some (g, o)) (h0 : B ≤ g ∨ (id.d = 0 ∧ id.g = 0 ∧ I id g)) : BlkRel E B I id blk := by
  unfold BlkRel
  rw [hb]
  exact ⟨h0, c, e, fz, h.heap, h.own, h.size, fun j hj => ⟨h.cell j hj, h.one j hj⟩⟩
theorem BlkAt.At {blk : Blk} {g o : Nat} {c : Array Value} {e : TypeId} {fz : Nat × Nat} (h : BlkAt E blk g o c e fz) (off : Nat) : At E (blk.cells.drop off) ⟨g, o + off, none⟩ := by
  refine ⟨fun j => c.getD (o + (off + j)) undef, fun j hj => ?_, fun j hj => ?_, fun j hj => ?_⟩
  · simp at hj
    have hs := h.size
    rw [add_lit, cell_of_row E.w g _ c e fz h.heap, zmd c _ (by omega), Nat.add_assoc]
  · simp at hj
    rw [zco]
    exact h.cell' (off + j) (by omega)
  · simp at hj
    exact h.one (off + j) (by omega)
theorem run_evalL {o : Oper} {f : Nat → PV} {a : Act} {p : PV} {rs : List Id} (h : evalL P o.op (pv f) E.σ = some (p, rs)) (hf : ∀ t, VR E (f t) (a.tmps.getD t undef))
    {B : Nat} {I : Id → Nat → Prop} (hblk : ∀ id blk, E.σ id = some blk → BlkRel E B I id blk) : ∃ v, (execOp a.eval o).run P E.w = .ok (.value v) E.w ∧ VR E p v := by
  unfold evalL at h
  split at h
  · rename_i t x ho
    have hx := zbs hf x
    split at h
    · rename_i b sz l ha hz hp
      rw [hp] at hx
      cases hl : loadL b sz l with
      | none => rw [hl] at h; cases h
      | some q =>
        rw [hl] at h; injection h with h; injection h with h1 h2; subst h1
        obtain ⟨ad, hv, hA⟩ := At.rp hx
        obtain ⟨v, hr, hq⟩ := zht hl ha hz hA
        exact ⟨v, by simp only [execOp, ho, hv, Instr.loadAt, Instr.sureAddr, Sem.run_bind, Sem.run_pure, Result.andThen_ok, hr], hq⟩
    · rename_i b sz id ver off ha hz hp
      rw [hp] at hx
      cases hlv : live E.σ id ver with
      | none => rw [hlv] at h; cases h
      | some blk =>
        rw [hlv] at h
        simp only [Option.bind_some] at h
        cases hl : loadL b sz (blk.cells.drop off) with
        | none => rw [hl] at h; cases h
        | some q =>
          rw [hl] at h; injection h with h; injection h with h1 h2; subst h1
          obtain ⟨hb, hv⟩ := zbh hlv
          obtain ⟨g, o', hβ, hv'⟩ := hx.pt_inv hb hv
          obtain ⟨_, c, e, fz, hat⟩ := (hblk id blk hb).at_ hβ
          obtain ⟨v, hr, hq⟩ := zht hl ha hz (hat.At off)
          exact ⟨v, by simp only [execOp, ho, hv', Instr.loadAt, Instr.sureAddr, Sem.run_bind, Sem.run_pure, Result.andThen_ok, hr], hq⟩
    · cases h
  · cases h
theorem evalL_congr {op : Op} {ρ ρ' : Operand → PV} {σ σ' : Id → Option Blk} {p : PV} {rs : List Id} (h : evalL P op ρ σ = some (p, rs)) (hρ : ∀ x ∈ op.operands, ρ' x = ρ x) (hs : ∀ id ∈ rs, σ' id = σ id) :
    evalL P op ρ' σ' = some (p, rs) := by
  unfold evalL at h
  split at h <;> (try simp only [Op.operands] at hρ) <;> simp only [evalL]
  · rename_i t x
    simp only [hρ x (by simp)]
    split at h
    · exact h
    · rename_i b sz id ver off ha hz hp
      cases hlv : live σ id ver with
      | none => rw [hlv] at h; cases h
      | some blk =>
        rw [hlv] at h
        simp only [Option.bind_some] at h
        cases hl : loadL b sz (blk.cells.drop off) with
        | none => rw [hl] at h; cases h
        | some q =>
          rw [hl] at h; injection h with h; injection h with h1 h2
          simp only [zbf (hs id (by simp [← h2])), hlv, Option.bind_some, hl, Option.map_some, h1, h2]
    · cases h
  · cases h
end
/-! ### what an operation does to the abstract state -/
structure Eff where
  val : PV
  reads : List Id
  wr : List (Id × Blk)
  bump : Bool
def wrs (σ : Id → Option Blk) (l : List (Id × Blk)) : Id → Option Blk := l.foldr (fun p σ => updI σ p.1 (some p.2)) σ
def St.eff (s : St) (dst : Option Nat) (e : Eff) : St :=
  { frame := (s.put dst e.val).frame
    store := wrs s.store e.wr
    gens := if e.bump then upd s.gens (dst.getD 0) (s.gens (dst.getD 0) + 1) else s.gens }
def Sim (P : Program) (o : Oper) (s : St) (e : Eff) : Prop :=
  ∀ (c : Ctx) (a : Act) (w : World) (K : Act → World → Prop) (Q : Exit → Act → World → Prop), Rel c s a w → (∀ d, o.dst = some d → d < c.nt) → (∀ a' w', Rel c (s.eff o.dst e) a' w' → K a' w') → o.wp P a w K Q
structure OpEff (P : Program) (o : Oper) (s : St) (e : Eff) : Prop where
  sim : ∀ s' : St, (∀ x ∈ o.op.operands, pv s'.frame x = pv s.frame x) → (∀ id ∈ e.reads, s'.store id = s.store id) → (∀ d, o.dst = some d → s'.gens d = s.gens d) → Sim P o s' e
theorem OpEff.here {P : Program} {o : Oper} {s : St} {e : Eff} (h : OpEff P o s e) : Sim P o s e := h.sim s (fun _ _ => rfl) (fun _ _ => rfl) (fun _ _ => rfl)
theorem BlkRel.room {E : Env} {B : Nat} {I : Id → Nat → Prop} {id : Id} {blk : Blk} {g o : Nat} (h : BlkRel E B I id blk) (hb : E.β id = some (g, o)) : Room E.w g (o + blk.cells.length) := by
  obtain ⟨_, c, e, fz, hat⟩ := h.at_ hb
  exact ⟨c, e, fz, hat.heap, hat.size⟩
theorem St.eff_val (s : St) (d : Option Nat) (p : PV) (rs : List Id) : s.eff d ⟨p, rs, [], false⟩ = s.put d p := by
  cases d <;> simp [St.eff, St.put, wrs]
theorem zhs {P : Program} {o : Oper} {s : St} {p : PV} {rs : List Id}
    (h : ∀ (c : Ctx) β (a : Act) (w : World), RelB c β s a w → ∃ v, (execOp a.eval o).run P w = .ok (.value v) w ∧ VR (env c β s.store w) p v) : Sim P o s ⟨p, rs, [], false⟩ := by
  intro c a w K Q hr hd hK
  obtain ⟨β, hr⟩ := hr
  obtain ⟨v, h1, h2⟩ := h c β a w hr
  unfold Oper.wp
  rw [h1]
  simp only [Oper.upon]
  refine hK _ _ ⟨β, ?_⟩
  rw [St.eff_val]
  exact hr.put o.dst p v hd fun _ _ => h2
theorem opEff_value {P : Program} {o : Oper} {s : St} {p : PV} {rs : List Id} (h : evalV P o.op (pv s.frame) s.store = some (p, rs)) : OpEff P o s ⟨p, rs, [], false⟩ :=
  ⟨fun s' h1 h2 _ => zhs fun c β a w hr =>
    run_evalV (E := env c β s'.store w) w (evalV_congr h h1 h2) hr.frame fun id blk g o' hs hb => (hr.blocks id blk hs).room hb⟩
theorem opEff_load {P : Program} {o : Oper} {s : St} {p : PV} {rs : List Id} (h : evalL P o.op (pv s.frame) s.store = some (p, rs)) : OpEff P o s ⟨p, rs, [], false⟩ :=
  ⟨fun s' h1 h2 _ => zhs fun c β a w hr =>
    run_evalL (E := env c β s'.store w) (evalL_congr h h1 h2) hr.frame hr.blocks⟩
end Go.Proofs.YthgldcflcmlgpaaGreatDoorE
end
section
/- New blocks, stores, and what is no longer written. -/
set_option linter.unusedVariables false
set_option linter.unusedSimpArgs false
namespace Go.Proofs.YthgldcflcmlgpaaGreatDoorE
open Go.RowKit
/-! ### freezing -/
def frzL (σ : Id → Option Blk) (ids : List Id) : List (Id × Blk) := ids.filterMap fun id => (σ id).map fun b => (id, { b with own := false })
theorem zcb (σ : Id → Option Blk) : ∀ (ids : List Id) (id : Id), wrs σ (frzL σ ids) id = if id ∈ ids then (σ id).map (fun b => { b with own := false }) else σ id
  | [], id => by simp [frzL, wrs]
  | x :: ids, id => by
    have ih := zcb σ ids id
    cases hx : σ x with
    | none =>
      have e : frzL σ (x :: ids) = frzL σ ids := by simp [frzL, hx]
      rw [e, ih]
      by_cases h : id = x
      · subst h; simp [hx]
      · simp [h]
    | some b =>
      have e : frzL σ (x :: ids) = (x, { b with own := false }) :: frzL σ ids := by simp [frzL, hx]
      have e2 : wrs σ ((x, { b with own := false }) :: frzL σ ids) = updI (wrs σ (frzL σ ids)) x (some { b with own := false }) := rfl
      rw [e, e2]
      by_cases h : id = x
      · subst h; simp [hx]
      · rw [zan _ _ _ _ h, ih]; simp [h]
theorem RelB.congr_store {c : Ctx} {β : Id → Option (Nat × Nat)} {s : St} {a : Act} {w : World} (h : RelB c β s a w) {s' : St} (e1 : s'.frame = s.frame) (e2 : s'.store = s.store) (e3 : s'.gens = s.gens) : RelB c β s' a w := by
  obtain ⟨f, σ, g⟩ := s
  obtain ⟨f', σ', g'⟩ := s'
  simp only at e1 e2 e3
  subst e1; subst e2; subst e3
  exact h
theorem RelB.freezes {c : Ctx} {β : Id → Option (Nat × Nat)} {s : St} {a : Act} {w : World} (h : RelB c β s a w) : ∀ (ids : List Id), RelB c β { s with store := wrs s.store (frzL s.store ids) } a w
  | [] => h.congr_store rfl (by simp [wrs, frzL]) rfl
  | x :: ids => by
    have ih := RelB.freezes h ids
    cases hx : s.store x with
    | none =>
      have e : frzL s.store (x :: ids) = frzL s.store ids := by simp [frzL, hx]
      rw [e]; exact ih
    | some b =>
      have h1 := zcb s.store ids x
      by_cases hm : x ∈ ids
      · rw [if_pos hm, hx] at h1
        refine (ih.freeze x _ h1).congr_store rfl ?_ rfl
        simp [frzL, hx, wrs]
      · rw [if_neg hm, hx] at h1
        refine (ih.freeze x _ h1).congr_store rfl ?_ rfl
        simp [frzL, hx, wrs]
def flatC (σ : Id → Option Blk) : PV → Option (PV × List Id)
  | .int k n => some (.int k n, [])
  | .bool b => some (.bool b, [])
  | .str s => some (.str s, [])
  | .nilS => some (.rd [] 0, [])
  | .nilP => some (.nilP, [])
  | .nilI => some (.nilI, [])
  | .nilF => some (.nilF, [])
  | .rd l n => some (.rd l n, [])
  | .rp l => some (.rp l, [])
  | .sl id ver off n sz => match live σ id ver with
    | some blk => if blk.flat = true ∧ off + n * sz ≤ blk.cells.length ∧ (id.d ≠ 0 ∨ id.g ≠ 0) then some (.rd ((blk.cells.drop off).take (n * sz)) n, [id]) else none
    | none => none
  | _ => none
def flatCs (σ : Id → Option Blk) : List PV → Option (List PV × List Id)
  | [] => some ([], [])
  | p :: r => match flatC σ p, flatCs σ r with
    | some (q, x), some (l, y) => some (q :: l, x ++ y)
    | _, _ => none
theorem rd_of_sl {c : Ctx} {β : Id → Option (Nat × Nat)} {s : St} {a : Act} {w : World} (h : RelB c β s a w) {id : Id} {ver off n sz : Nat} {blk : Blk} {v : Value} (hb : s.store id = some blk) (ho : blk.own = false) (hf : blk.flat = true) (hv : blk.ver = ver)
    (hl : off + n * sz ≤ blk.cells.length) (hi : id.d ≠ 0 ∨ id.g ≠ 0) (hx : VR (env c β s.store w) (.sl id ver off n sz) v) : VR (env c β s.store w).bare (.rd ((blk.cells.drop off).take (n * sz)) n) v := by
  have hs := hx.sl_inv hb hv
  have hr := h.blocks id blk hb
  unfold SlAt at hs
  split at hs
  · rename_i hβ
    obtain ⟨rfl, rfl⟩ := hs
    rw [Nat.zero_mul, List.take_zero]
    exact .rd0 _ _ _ (Nat.le_refl _)
  · rename_i g o hβ
    obtain ⟨cap, rfl, h1, h2, h3⟩ := hs
    obtain ⟨h0, cc, e, fz, hat⟩ := hr.at_ hβ
    have hB : c.w0.heap.size ≤ g := by
      rcases h0 with h0 | ⟨k1, k2, _⟩
      · exact h0
      · rcases hi with hi | hi
        · exact absurd k1 hi
        · exact absurd k2 hi
    have hsz := hat.size
    have hlt : ∀ j, j < ((blk.cells.drop off).take (n * sz)).length → off + j < blk.cells.length ∧ j < n * sz := by
      intro j hj; simp at hj; omega
    refine .rd _ _ _ _ (fun j => cc.getD (o + (off + j)) undef) h1 ⟨hr.lt hβ, .inr hB, fun id' blk' o' q1 q2 q3 => ?_⟩ (fun j hj => ?_) (fun j hj => ?_) fun j hj => ?_
    · have := h.inj id' id blk' blk g o' o q1 hb q2 q3 hβ
      subst this
      rw [hb] at q1; injection q1 with q1; subst q1
      rw [ho] at q2; cases q2
    · obtain ⟨hj1, hj2⟩ := hlt j hj
      rw [add_lit]
      have := cell_of_row w g (o + off + j) cc e fz hat.heap
      have hin : o + off + j < cc.size := by omega
      rw [zmd cc _ hin] at this
      rw [← Nat.add_assoc]
      exact this
    · obtain ⟨hj1, hj2⟩ := hlt j hj
      rw [zcn _ _ _ hj2, zco]
      have := hat.cell (off + j) hj1
      rw [if_pos hf] at this
      exact this
    · exact hat.one (off + j) (hlt j hj).1
theorem flatC_VR {c : Ctx} {β : Id → Option (Nat × Nat)} {s : St} {a : Act} {w : World} (h : RelB c β s a w) {p q : PV} {x ids : List Id} (hc : flatC s.store p = some (q, x)) (hsub : ∀ id ∈ x, id ∈ ids) {v : Value} (hv : VR (env c β s.store w) p v) :
    VR (env c β (wrs s.store (frzL s.store ids)) w).bare q v ∧ v.oneCell' = true := by
  have hF := h.freezes ids
  have L : (env c β s.store w).Le (env c β (wrs s.store (frzL s.store ids)) w) := by
    refine ⟨?_, fun _ _ => rfl, fun _ _ h => h, ?_⟩
    · rintro g ⟨h1, h2, h3⟩
      refine ⟨h1, h2, fun id blk o q1 q2 q3 => ?_⟩
      have q1 : wrs s.store (frzL s.store ids) id = some blk := q1
      rw [zcb] at q1
      split at q1
      · cases hs : s.store id with
        | none => rw [hs] at q1; cases q1
        | some b => rw [hs] at q1; injection q1 with q1; subst q1; cases q2
      · exact h3 id blk o q1 q2 q3
    · intro id blk hs
      simp only [env] at hs ⊢
      rw [zcb]
      split
      · rw [hs]; exact ⟨_, rfl, Nat.le_refl _, fun _ => by trivial⟩
      · exact ⟨blk, hs, Nat.le_refl _, fun _ => by trivial⟩
  unfold flatC at hc
  split at hc <;> first | (injection hc with hc; injection hc with h1 h2; subst h1) | skip
  · exact ⟨by rw [hv.int_inv]; exact .int _ _, hv.leaf_one rfl⟩
  · exact ⟨by rw [hv.bool_inv]; exact .bool _, hv.leaf_one rfl⟩
  · exact ⟨by rw [hv.str_inv]; exact .str _, hv.leaf_one rfl⟩
  · exact ⟨by rw [hv.nilS_inv]; exact .rd0 _ _ _ (Nat.le_refl _), hv.leaf_one rfl⟩
  · exact ⟨by rw [hv.nilP_inv]; exact .nilP, hv.leaf_one rfl⟩
  · exact ⟨by rw [hv.nilI_inv]; exact .nilI, hv.leaf_one rfl⟩
  · exact ⟨by rw [hv.nilF_inv]; exact .nilF, hv.leaf_one rfl⟩
  · refine ⟨?_, hv.leaf_one rfl⟩
    have hv := hv.mono L
    cases hv with
    | rd0 n A c h1 => exact .rd0 _ _ _ h1
    | rd l n a c us h1 h2 h3 h4 h5 => exact .rd _ _ _ _ us h1 h2 h3 h4 h5
  · refine ⟨?_, hv.leaf_one rfl⟩
    have hv := hv.mono L
    cases hv with
    | rp l a us h2 h3 h4 h5 => exact .rp _ _ us h2 h3 h4 h5
  · rename_i id ver off n sz
    split at hc
    · rename_i blk hl
      split at hc
      · rename_i hcond
        injection hc with hc; injection hc with h1 h2; subst h1
        refine ⟨?_, hv.leaf_one rfl⟩
        obtain ⟨hb, hver⟩ := zbh hl
        have hmem : id ∈ ids := hsub id (by simp [← h2])
        have hv' := hv.mono L
        have hst : wrs s.store (frzL s.store ids) id = some { blk with own := false } := by rw [zcb, if_pos hmem, hb]; rfl
        exact rd_of_sl (s := { s with store := wrs s.store (frzL s.store ids) }) hF (blk := { blk with own := false }) hst rfl hcond.1 hver hcond.2.1 hcond.2.2 hv'
      · cases hc
    · cases hc
  · cases hc
theorem zif {c : Ctx} {β : Id → Option (Nat × Nat)} {s : St} {a : Act} {w : World} (h : RelB c β s a w) (ids : List Id) : ∀ (ps qs : List PV) (x : List Id), flatCs s.store ps = some (qs, x) → (∀ id ∈ x, id ∈ ids) →
    qs.length = ps.length ∧ ∀ j, j < ps.length → ∀ v, VR (env c β s.store w) (ps.getD j .any) v → VR (env c β (wrs s.store (frzL s.store ids)) w).bare (qs.getD j .any) v ∧ v.oneCell' = true
  | [], qs, x, hc, _ => by injection hc with hc; injection hc with h1 h2; subst h1; exact ⟨rfl, by simp⟩
  | p :: ps, qs, x, hc, hsub => by
    simp only [flatCs] at hc
    split at hc
    · rename_i q x1 l y h1 h2
      injection hc with hc; injection hc with e1 e2; subst e1; subst e2
      obtain ⟨k1, k2⟩ := zif h ids ps l y h2 (fun id hid => hsub id (by simp [hid]))
      refine ⟨by simp [k1], fun j hj v hv => ?_⟩
      cases j with
      | zero => simp at hv ⊢; exact flatC_VR h h1 (fun id hid => hsub id (by simp [hid])) hv
      | succ j => simp at hv ⊢; have := k2 j (by simpa using hj) v (by simpa using hv); simpa using this
    · cases hc
/-! ### a new block -/
theorem St.no_new {c : Ctx} {β : Id → Option (Nat × Nat)} {s : St} {a : Act} {w : World} (h : RelB c β s a w) (d j : Nat) : s.store ⟨d, s.gens d, j⟩ = none := by
  cases hs : s.store ⟨d, s.gens d, j⟩ with
  | none => rfl
  | some blk => have := h.gens _ _ hs; simp at this
theorem RelB.new {c : Ctx} {β : Id → Option (Nat × Nat)} {s : St} {a : Act} {w : World} (h : RelB c β s a w) (d : Nat) (flat : Bool) (L : List PV) (cs : Array Value) (e : TypeId) (hs : L.length ≤ cs.size)
    (hv : ∀ j, j < L.length → VR (if flat then (env c β s.store w).bare else env c β s.store w) (L.getD j .any) (cs.getD j undef)) (h1 : ∀ j, j < L.length → (cs.getD j undef).oneCell' = true) :
    RelB c (updI β ⟨d, s.gens d, 0⟩ (some (w.heap.size, 0))) { s with store := updI s.store ⟨d, s.gens d, 0⟩ (some ⟨0, true, flat, L⟩), gens := upd s.gens d (s.gens d + 1) } a (w.alloc (.cells cs e)) := by
  have hno := St.no_new h d 0
  have hB := h.keeps.size
  refine h.write ⟨d, s.gens d, 0⟩ _ w.heap.size 0 _ (Keeps.alloc _ _ w _ hB) (fun k _ hk => heap_alloc_old w _ k hk) (.inl (Nat.le_refl _)) (fun blk hb => by rw [hno] at hb; cases hb) (fun Le => ?_) (fun id blk hb => ?_) (by simp)
  · refine BlkAt.rel (g := w.heap.size) (o := 0) (c := cs) (e := e) (fz := (0, 0)) ⟨heap_alloc_new w _, fun _ => rfl, by simpa using hs, fun j hj => ?_, fun j hj => ?_⟩ (by simp [env]) (.inl hB)
    · rw [Nat.zero_add]
      have := hv j hj
      dsimp only
      split
      · rename_i hf; rw [if_pos hf] at this; exact this.mono Le.bare
      · rename_i hf; rw [if_neg hf] at this; exact this.mono Le
    · rw [Nat.zero_add]; exact h1 j hj
  · have := h.gens id blk hb
    by_cases hd : id.d = d
    · rw [hd] at this ⊢; simp; omega
    · rw [zbj _ _ _ _ hd]; exact this
theorem zix {P : Program} (w : World) (t : TypeId) (v : Value) : (newVar t v).run P w = .ok ⟨w.heap.size, 0, none⟩ (w.alloc (.cells v.cells t)) := by
  simp [newVar, newRow, newObj, Sem.run]
def allocE (P : Program) (t : TypeId) (d g : Nat) : Option Eff :=
  (zeroOf P t).bind fun z => if z.all leafB = true then some ⟨.pt ⟨d, g, 0⟩ 0 0, [], [(⟨d, g, 0⟩, ⟨0, true, false, z⟩)], true⟩ else none
theorem zml {P : Program} {o : Oper} {s : St} {d : Nat} {p : PV} {rs : List Id} {flat : Bool} {L : List PV} (hd : o.dst = some d)
    (h : ∀ (c : Ctx) β (a : Act) (w : World), RelB c β s a w → ∃ v cs e, (execOp a.eval o).run P w = .ok (.value v) (w.alloc (.cells cs e)) ∧ L.length ≤ cs.size ∧
      (∀ j, j < L.length → VR (if flat then (env c β s.store w).bare else env c β s.store w) (L.getD j .any) (cs.getD j undef)) ∧ (∀ j, j < L.length → (cs.getD j undef).oneCell' = true) ∧
      VR (env c (updI β ⟨d, s.gens d, 0⟩ (some (w.heap.size, 0))) (updI s.store ⟨d, s.gens d, 0⟩ (some ⟨0, true, flat, L⟩)) (w.alloc (.cells cs e))) p v) :
    Sim P o s ⟨p, rs, [(⟨d, s.gens d, 0⟩, ⟨0, true, flat, L⟩)], true⟩ := by
  intro c a w K Q hr hn hK
  obtain ⟨β, hr⟩ := hr
  obtain ⟨v, cs, e, h1, h2, h3, h4, h5⟩ := h c β a w hr
  unfold Oper.wp
  rw [h1]
  simp only [Oper.upon]
  have hnew := hr.new d flat L cs e h2 h3 h4
  refine hK _ _ ⟨_, (hnew.put o.dst p v hn fun _ _ => h5).congr_store ?_ ?_ ?_⟩
  · simp [St.eff, St.put, hd]
  · simp [St.eff, St.put, hd, wrs]
  · simp [St.eff, St.put, hd]
theorem opEff_alloc {P : Program} {o : Oper} {s : St} {t : TypeId} {d : Nat} {e : Eff} (ho : o.op = .alloc t) (hd : o.dst = some d) (h : allocE P t d (s.gens d) = some e) : OpEff P o s e := by
  unfold allocE at h
  cases hz : zeroOf P t with
  | none => rw [hz] at h; cases h
  | some z =>
    rw [hz] at h
    simp only [Option.bind_some] at h
    split at h
    · rename_i hl
      injection h with h; subst h
      refine ⟨fun s' h1 h2 h3 => ?_⟩
      rw [← h3 d hd]
      refine zml hd fun c β a w hr => ?_
      obtain ⟨v0, hr0, hc0⟩ := zcx (E := env c β s'.store w) hz hl w
      refine ⟨.pointer (some ⟨w.heap.size, 0, none⟩), v0.cells, t, ?_, by rw [hc0.1]; exact Nat.le_refl _, fun j hj => by simpa using hc0.2.1 j hj, hc0.2.2, ?_⟩
      · simp only [execOp, ho, Instr.alloc, Sem.run_bind, hr0, Result.andThen_ok, zix, Sem.run_pure]
      · exact .pt _ _ _ _ ⟨0, true, false, z⟩ (by simp [env]) (Nat.le_refl _) (fun _ => ⟨w.heap.size, 0, by simp [env], rfl⟩) rfl
    · cases h
def boxE (x : PV) (d g : Nat) : Option Eff :=
  if solid x = true then some ⟨.pt ⟨d, g, 0⟩ 0 0, [], [(⟨d, g, 0⟩, ⟨0, true, false, cellsOf x⟩)], true⟩ else none
theorem opEff_box {P : Program} {o : Oper} {s : St} {t : TypeId} {x : Operand} {d : Nat} {e : Eff} (ho : o.op = .box t x) (hd : o.dst = some d) (h : boxE (pv s.frame x) d (s.gens d) = some e) : OpEff P o s e := by
  unfold boxE at h
  split at h
  · rename_i hs
    injection h with h; subst h
    refine ⟨fun s' h1 h2 h3 => ?_⟩
    rw [← h3 d hd, ← h1 x (by simp [ho, Op.operands])]
    rw [← h1 x (by simp [ho, Op.operands])] at hs
    refine zml hd fun c β a w hr => ?_
    have hv := zbs hr.frame x
    obtain ⟨k1, k2, k3⟩ := hv.cells hs
    refine ⟨.pointer (some ⟨w.heap.size, 0, none⟩), (a.eval x).cells, t, ?_, by rw [k1]; exact Nat.le_refl _, fun j hj => by simpa using k2 j hj, k3, ?_⟩
    · simp only [execOp, ho, Instr.box, Sem.run_bind, zix, Result.andThen_ok, Sem.run_pure]
    · exact .pt _ _ _ _ ⟨0, true, false, cellsOf (pv s'.frame x)⟩ (by simp [env]) (Nat.le_refl _) (fun _ => ⟨w.heap.size, 0, by simp [env], rfl⟩) rfl
  · cases h
end Go.Proofs.YthgldcflcmlgpaaGreatDoorE
end
section
/- Stores, slices that are made, appends, copies. -/
set_option linter.unusedVariables false
set_option linter.unusedSimpArgs false
namespace Go.Proofs.YthgldcflcmlgpaaGreatDoorE
open Go.RowKit
theorem zcc {α : Type} (l m : List α) (off j : Nat) (d : α) (h : off + m.length ≤ l.length) :
    (l.take off ++ m ++ l.drop (off + m.length)).getD j d = if off ≤ j ∧ j < off + m.length then m.getD (j - off) d else l.getD j d := by
  simp only [List.getD, List.getElem?_append, List.length_take, List.length_append, List.getElem?_drop, List.getElem?_take]
  by_cases h1 : j < off
  · rw [if_pos (by omega), if_pos (by omega), if_pos h1, if_neg (by omega)]
  · by_cases h2 : j < off + m.length
    · rw [if_pos (by omega), if_neg (by omega), if_pos (by omega)]
      congr 2
      omega
    · rw [if_neg (by omega), if_neg (by omega)]
      congr 2
      omega
theorem zeg {α : Type} (l m : List α) (off : Nat) (h : off + m.length ≤ l.length) : (l.take off ++ m ++ l.drop (off + m.length)).length = l.length := by
  simp; omega
theorem zdh (l : List Value) (j : Nat) : l.toArray.getD j undef = l.getD j undef := by simp [List.getD, Array.getD_eq_getD_getElem?]
theorem zcy (l : Array Value) (j : Nat) : l.toList.getD j undef = l.getD j undef := by simp [List.getD, Array.getD_eq_getD_getElem?]
theorem RelB.rewrite {c : Ctx} {β : Id → Option (Nat × Nat)} {s : St} {a : Act} {w : World} (h : RelB c β s a w) {x : Id} {blk : Blk} {g o : Nat} (hb : s.store x = some blk) (ho : blk.own = true) (hβ : β x = some (g, o))
    {cur : Array Value} {e : TypeId} (hg : w.heap[g]? = some (.cells cur e (0, 0))) (cur' : Array Value) (hsz : cur'.size = cur.size) (blk' : Blk) (o' : Nat) (hver : blk.ver ≤ blk'.ver ∧ (blk'.ver = blk.ver → o' = o))
    (hfit : o' + blk'.cells.length ≤ cur.size)
    (hv : ∀ j, j < blk'.cells.length → VR (if blk'.flat then (env c β s.store w).bare else env c β s.store w) (blk'.cells.getD j .any) (cur'.getD (o' + j) undef)) (h1 : ∀ j, j < blk'.cells.length → (cur'.getD (o' + j) undef).oneCell' = true) :
    RelB c (updI β x (some (g, o'))) { s with store := updI s.store x (some blk') } a (w.setRow g cur') := by
  have hrel := h.blocks x blk hb
  obtain ⟨h0, _⟩ := hrel.at_ hβ
  have hI : c.w0.heap.size ≤ g ∨ c.IS g := by
    rcases h0 with h0 | ⟨_, _, h0⟩
    · exact .inl h0
    · exact .inr ⟨_, h0⟩
  refine h.write x blk' g o' s.gens (Keeps.setRow _ _ w g cur' cur e (0, 0) hg hsz hI) (fun k hk _ => setRow_other w g k cur' hk) (.inr ⟨blk, o, hb, ho, hβ⟩)
    (fun b hb' => ?_) (fun Le => ?_) h.gens (h.gens x blk hb)
  · rw [hb] at hb'; injection hb' with hb'; subst hb'
    exact ⟨hver.1, fun e => by rw [hβ, hver.2 e]⟩
  · refine BlkAt.rel (g := g) (o := o') (c := cur') (e := e) (fz := (0, 0)) ⟨setRow_heap w g cur cur' e (0, 0) hg, fun _ => rfl, by omega, fun j hj => ?_, h1⟩ (by simp [env]) h0
    have := hv j hj
    split
    · rename_i hf; rw [if_pos hf] at this; exact this.mono Le.bare
    · rename_i hf; rw [if_neg hf] at this; exact this.mono Le
/-! ### store -/
def storeE (P : Program) (t : TypeId) (x v : PV) (σ : Id → Option Blk) : Option Eff :=
  match x with
  | .pt id ver off =>
    match live σ id ver, szOf P t with
    | some blk, some sz =>
      if blk.own = true ∧ solid v = true ∧ (cellsOf v).length = sz ∧ off + sz ≤ blk.cells.length then
        if blk.flat = true then
          match flatCs σ (cellsOf v) with
          | some (qs, ids) => if id ∈ ids then none else some ⟨.any, id :: ids, (id, { blk with cells := blk.cells.take off ++ qs ++ blk.cells.drop (off + sz) }) :: frzL σ ids, false⟩
          | none => none
        else some ⟨.any, [id], [(id, { blk with cells := blk.cells.take off ++ cellsOf v ++ blk.cells.drop (off + sz) })], false⟩
      else none
    | _, _ => none
  | _ => none
theorem zez {σ σ' : Id → Option Blk} : ∀ (ids : List Id), (∀ id ∈ ids, σ' id = σ id) → frzL σ' ids = frzL σ ids
  | [], _ => rfl
  | x :: ids, h => by
    have h1 := h x (by simp)
    have ih := zez ids (fun id hid => h id (by simp [hid]))
    unfold frzL at *
    simp only [List.filterMap_cons, h1, ih]
theorem flatC_congr {σ σ' : Id → Option Blk} {p q : PV} {ids : List Id} (h : flatC σ p = some (q, ids)) (hs : ∀ id ∈ ids, σ' id = σ id) : flatC σ' p = some (q, ids) := by
  unfold flatC at *
  split at h <;> first | exact h | skip
  split at h
  · rename_i id ver off n sz _ blk hl
    split at h
    · rename_i hc
      injection h with h; injection h with h1 h2
      rw [zbf (hs id (by simp [← h2])), hl]
      simp only [if_pos hc, h1, h2]
    · cases h
  · cases h
theorem zdk {σ σ' : Id → Option Blk} : ∀ {ps qs : List PV} {ids : List Id}, flatCs σ ps = some (qs, ids) → (∀ id ∈ ids, σ' id = σ id) → flatCs σ' ps = some (qs, ids)
  | [], qs, ids, h, _ => h
  | p :: ps, qs, ids, h, hs => by
    simp only [flatCs] at *
    split at h
    · rename_i q x l y h1 h2
      injection h with h; injection h with e1 e2; subst e2
      rw [flatC_congr h1 (fun id hid => hs id (by simp [hid])), zdk h2 (fun id hid => hs id (by simp [hid]))]
      simp [e1]
    · cases h
theorem storeE_congr {P : Program} {t : TypeId} {x v : PV} {σ σ' : Id → Option Blk} {e : Eff} (h : storeE P t x v σ = some e) (hs : ∀ id ∈ e.reads, σ' id = σ id) : storeE P t x v σ' = some e := by
  unfold storeE at *
  split at h
  · rename_i id ver off
    split at h
    · rename_i blk sz hl hz
      split at h
      · rename_i hc
        split at h
        · rename_i hf
          split at h
          · rename_i qs ids hq
            split at h
            · cases h
            · rename_i hid
              injection h with h; subst h
              rw [zbf (hs id (by simp)), hl]
              simp only [hz, if_pos hc, if_pos hf, zdk hq (fun i hi => hs i (by simp [hi])), if_neg hid, zez ids (fun i hi => hs i (by simp [hi]))]
          · cases h
        · rename_i hf
          injection h with h; subst h
          rw [zbf (hs id (by simp)), hl]
          simp only [hz, if_pos hc, if_neg hf]
      · cases h
    · cases h
  · cases h
theorem run_storeVar {P : Program} (w : World) (g o : Nat) (e t : TypeId) (v : Value) (cur : Array Value) (hg : w.heap[g]? = some (.cells cur e (0, 0))) {sz : Nat} (hz : szOf P t = some sz) (hs : v.cells.size = sz) (hfit : o + sz ≤ cur.size)
    (h1 : ∀ j, j < sz → (v.cells.getD j undef).oneCell' = true) : (storeVar t ⟨g, o, none⟩ v).run P w = .ok () (w.setRow g (cur.toList.take o ++ v.cells.toList ++ cur.toList.drop (o + v.cells.toList.length)).toArray) := by
  have hst := run_storeCells_at P g o e v.cells.toList 0 cur w hg (by simp; omega) (fun u hu => by
    obtain ⟨j, hj, rfl⟩ := List.getElem_of_mem hu
    have := h1 j (by simpa [hs] using hj)
    rw [← zcy] at this
    simpa [List.getD, List.getElem?_eq_getElem hj] using this)
  simp only [Nat.add_zero] at hst
  simp only [storeVar, Sem.run_bind, zav hz, Result.andThen_ok, hs, ne_eq, not_true_eq_false, if_false, hst]
theorem opEff_store {P : Program} {o : Oper} {s : St} {t : TypeId} {x y : Operand} {e : Eff} (ho : o.op = .store t x y) (hd : o.dst = none) (h : storeE P t (pv s.frame x) (pv s.frame y) s.store = some e) : OpEff P o s e := by
  refine ⟨fun s' h1 h2 _ => ?_⟩
  have h := storeE_congr h h2
  rw [← h1 x (by simp [ho, Op.operands]), ← h1 y (by simp [ho, Op.operands])] at h
  clear h1 h2
  intro c a w K Q hr _ hK
  obtain ⟨β, hr⟩ := hr
  have vx := zbs hr.frame x
  have vy := zbs hr.frame y
  unfold storeE at h
  split at h
  · rename_i id ver off hpx
    rw [hpx] at vx
    split at h
    · rename_i blk sz hl hz
      obtain ⟨hb, hver⟩ := zbh hl
      split at h
      · rename_i hc
        obtain ⟨c1, c2, c3, c4⟩ := hc
        obtain ⟨g, o0, hβ, hv⟩ := vx.pt_inv hb hver
        have hβ : β id = some (g, o0) := hβ
        obtain ⟨_, cur, et, fz, hat⟩ := (hr.blocks id blk hb).at_ hβ
        have hfz := hat.own c1
        subst hfz
        have hheap : w.heap[g]? = some (.cells cur et (0, 0)) := hat.heap
        obtain ⟨k1, k2, k3⟩ := vy.cells c2
        have hsize := hat.size
        have hrun : (execOp a.eval o).run P w = .ok .skip (w.setRow g (cur.toList.take (o0 + off) ++ (a.eval y).cells.toList ++ cur.toList.drop (o0 + off + (a.eval y).cells.toList.length)).toArray) := by
          simp only [execOp, ho, hv, Instr.storeAt, Instr.sureAddr, Sem.run_bind, Sem.run_pure, Result.andThen_ok, run_storeVar w g (o0 + off) et t (a.eval y) cur hheap hz (by omega) (by omega) (fun j hj => k3 j (by omega))]
        have hlen : (a.eval y).cells.toList.length = sz := by simp; omega
        have hcur : ∀ j, ((cur.toList.take (o0 + off) ++ (a.eval y).cells.toList ++ cur.toList.drop (o0 + off + (a.eval y).cells.toList.length)).toArray).getD j undef = if o0 + off ≤ j ∧ j < o0 + off + sz then (a.eval y).cells.getD (j - (o0 + off)) undef else cur.getD j undef := by
          intro j
          rw [zdh, zcc _ _ _ _ _ (by simp; omega), hlen, zcy, zcy]
        have hcs : ((cur.toList.take (o0 + off) ++ (a.eval y).cells.toList ++ cur.toList.drop (o0 + off + (a.eval y).cells.toList.length)).toArray).size = cur.size := by
          simp only [List.size_toArray]; rw [zeg _ _ _ (by simp; omega)]; simp
        split at h
        · rename_i hf
          split at h
          · rename_i qs ids hq
            split at h
            · cases h
            · rename_i hid
              injection h with h; subst h
              obtain ⟨q1, q2⟩ := zif hr ids _ _ _ hq (fun _ h => h)
              have hst : wrs s'.store (frzL s'.store ids) id = some blk := by rw [zcb, if_neg hid]; exact hb
              have hqs : (blk.cells.take off ++ qs ++ blk.cells.drop (off + sz)).length = blk.cells.length := by simp; omega
              have hget : ∀ j, (blk.cells.take off ++ qs ++ blk.cells.drop (off + sz)).getD j .any = if off ≤ j ∧ j < off + sz then qs.getD (j - off) .any else blk.cells.getD j .any := by
                intro j
                have := zcc blk.cells qs off j .any (by omega)
                rw [q1, c3] at this
                exact this
              have L : (env c β s'.store w).Le (env c β (wrs s'.store (frzL s'.store ids)) w) := by
                refine ⟨?_, fun _ _ => rfl, fun _ _ h => h, ?_⟩
                · rintro g ⟨h1, h2, h3⟩
                  refine ⟨h1, h2, fun id blk o q1 q2 q3 => ?_⟩
                  have q1 : wrs s'.store (frzL s'.store ids) id = some blk := q1
                  rw [zcb] at q1
                  split at q1
                  · cases hs : s'.store id with
                    | none => rw [hs] at q1; cases q1
                    | some b => rw [hs] at q1; injection q1 with q1; subst q1; cases q2
                  · exact h3 id blk o q1 q2 q3
                · intro id blk hs
                  simp only [env] at hs ⊢
                  rw [zcb]
                  split
                  · rw [hs]; exact ⟨_, rfl, Nat.le_refl _, fun _ => by trivial⟩
                  · exact ⟨blk, hs, Nat.le_refl _, fun _ => by trivial⟩
              have hre := (hr.freezes ids).rewrite (x := id) (blk := blk) (g := g) (o := o0) hst c1 hβ hheap _ hcs { blk with cells := blk.cells.take off ++ qs ++ blk.cells.drop (off + sz) } o0 ⟨Nat.le_refl _, fun _ => rfl⟩ (by rw [hqs]; exact hsize)
                (fun j hj => ?_) (fun j hj => ?_)
              · unfold Oper.wp
                rw [hrun]
                simp only [Oper.upon, hd, Act.put]
                refine hK _ _ ⟨_, hre.congr_store ?_ ?_ ?_⟩
                · simp [St.eff, St.put, hd]
                · rfl
                · rfl
              · rw [hqs] at hj
                simp only [hf, if_true]
                rw [hget, hcur]
                by_cases hj2 : off ≤ j ∧ j < off + sz
                · rw [if_pos hj2, if_pos (by omega)]
                  have := (q2 (j - off) (by omega) _ (k2 (j - off) (by omega))).1
                  rw [show o0 + j - (o0 + off) = j - off by omega]
                  exact this
                · rw [if_neg hj2, if_neg (by omega)]
                  have := hat.cell j hj
                  rw [if_pos hf] at this
                  exact this.mono L.bare
              · rw [hqs] at hj
                rw [hcur]
                by_cases hj2 : off ≤ j ∧ j < off + sz
                · rw [if_pos (by omega)]
                  rw [show o0 + j - (o0 + off) = j - off by omega]
                  exact k3 _ (by omega)
                · rw [if_neg (by omega)]; exact hat.one j hj
          · cases h
        · rename_i hf
          injection h with h; subst h
          have hqs : (blk.cells.take off ++ cellsOf (pv s'.frame y) ++ blk.cells.drop (off + sz)).length = blk.cells.length := by simp; omega
          have hget : ∀ j, (blk.cells.take off ++ cellsOf (pv s'.frame y) ++ blk.cells.drop (off + sz)).getD j .any = if off ≤ j ∧ j < off + sz then (cellsOf (pv s'.frame y)).getD (j - off) .any else blk.cells.getD j .any := by
            intro j
            have := zcc blk.cells (cellsOf (pv s'.frame y)) off j .any (by omega)
            rw [c3] at this
            exact this
          have hre := hr.rewrite (x := id) (blk := blk) (g := g) (o := o0) hb c1 hβ hheap _ hcs { blk with cells := blk.cells.take off ++ cellsOf (pv s'.frame y) ++ blk.cells.drop (off + sz) } o0 ⟨Nat.le_refl _, fun _ => rfl⟩ (by rw [hqs]; exact hsize)
            (fun j hj => ?_) (fun j hj => ?_)
          · unfold Oper.wp
            rw [hrun]
            simp only [Oper.upon, hd, Act.put]
            refine hK _ _ ⟨_, hre.congr_store ?_ ?_ ?_⟩
            · simp [St.eff, St.put, hd]
            · rfl
            · rfl
          · rw [hqs] at hj
            have hf' : blk.flat = false := by simpa using hf
            simp only [hf', Bool.false_eq_true, if_false]
            rw [hget, hcur]
            by_cases hj2 : off ≤ j ∧ j < off + sz
            · rw [if_pos hj2, if_pos (by omega), show o0 + j - (o0 + off) = j - off by omega]
              exact k2 (j - off) (by omega)
            · rw [if_neg hj2, if_neg (by omega)]
              exact hat.cell' j hj
          · rw [hqs] at hj
            rw [hcur]
            by_cases hj2 : off ≤ j ∧ j < off + sz
            · rw [if_pos (by omega), show o0 + j - (o0 + off) = j - off by omega]
              exact k3 _ (by omega)
            · rw [if_neg (by omega)]; exact hat.one j hj
      · cases h
    · cases h
  · cases h
end Go.Proofs.YthgldcflcmlgpaaGreatDoorE
end
section
/- Slices that are made, literals, appends, copies. -/
set_option linter.unusedVariables false
set_option linter.unusedSimpArgs false
namespace Go.Proofs.YthgldcflcmlgpaaGreatDoorE
open Go.RowKit
theorem zks {α : Type} (z : List α) (d : α) : ∀ (n j : Nat), j < n * z.length → ((List.replicate n z).flatten).getD j d = z.getD (j % z.length) d
  | 0, j, h => by simp at h
  | n + 1, j, h => by
    simp only [List.replicate_succ, List.flatten_cons]
    by_cases hj : j < z.length
    · rw [Nat.mod_eq_of_lt hj]
      simp [List.getD, List.getElem?_append_left hj]
    · have h' : j - z.length < n * z.length := by rw [Nat.add_mul] at h; omega
      have ih := zks z d n (j - z.length) h'
      rw [Nat.mod_eq_sub_mod (by omega)]
      rw [← ih]
      simp [List.getD, List.getElem?_append_right (Nat.not_lt.1 hj)]
theorem zer {α : Type} (z : List α) (n : Nat) : ((List.replicate n z).flatten).length = n * z.length := by simp
theorem zmc {P : Program} {t : TypeId} {n : Nat} (h : byOf P t = some n) : ∃ i, P.info? t = some i ∧ i.bytes = n := by
  unfold byOf at h
  cases hi : P.info? t with
  | none => rw [hi] at h; cases h
  | some i => rw [hi] at h; injection h with h; exact ⟨i, rfl, h⟩
theorem zhl {P : Program} {t : TypeId} {z : List PV} (h : zeroOf P t = some z) : ∃ i v, P.info? t = some i ∧ i.zero = some v ∧ z = v.cells.toList.map ofConst := by
  unfold zeroOf at h
  cases hi : P.info? t with
  | none => rw [hi] at h; cases h
  | some i =>
    rw [hi] at h
    cases hv : i.zero with
    | none => simp [hv] at h
    | some v => simp [hv] at h; exact ⟨i, v, rfl, hv, h.symm⟩
theorem zie {E : Env} : ∀ {z zf : List PV} {x : List Id}, flatCs (fun _ => none) z = some (zf, x) → zf.length = z.length ∧ ∀ j, j < z.length → ∀ v, VR E (z.getD j .any) v → VR E.bare (zf.getD j .any) v ∧ v.oneCell' = true
  | [], zf, x, h => by injection h with h; injection h with h1 h2; subst h1; exact ⟨rfl, by simp⟩
  | p :: z, zf, x, h => by
    simp only [flatCs] at h
    split at h
    · rename_i q x1 l y h1 h2
      injection h with h; injection h with e1 e2; subst e1
      obtain ⟨k1, k2⟩ := zie (E := E) h2
      refine ⟨by simp [k1], fun j hj v hv => ?_⟩
      cases j with
      | zero =>
        simp at hv ⊢
        unfold flatC at h1
        split at h1 <;> first | (injection h1 with h1; injection h1 with h3 h4; subst h3) | skip
        · exact ⟨by rw [hv.int_inv]; exact .int _ _, hv.leaf_one rfl⟩
        · exact ⟨by rw [hv.bool_inv]; exact .bool _, hv.leaf_one rfl⟩
        · exact ⟨by rw [hv.str_inv]; exact .str _, hv.leaf_one rfl⟩
        · exact ⟨by rw [hv.nilS_inv]; exact .rd0 _ _ _ (Nat.le_refl _), hv.leaf_one rfl⟩
        · exact ⟨by rw [hv.nilP_inv]; exact .nilP, hv.leaf_one rfl⟩
        · exact ⟨by rw [hv.nilI_inv]; exact .nilI, hv.leaf_one rfl⟩
        · exact ⟨by rw [hv.nilF_inv]; exact .nilF, hv.leaf_one rfl⟩
        · refine ⟨?_, hv.leaf_one rfl⟩
          cases hv with
          | rd0 n A c h1 => exact .rd0 _ _ _ h1
          | rd l n a c us h1 h2 h3 h4 h5 => exact .rd _ _ _ _ us h1 h2 h3 h4 h5
        · refine ⟨?_, hv.leaf_one rfl⟩
          cases hv with
          | rp l a us h2 h3 h4 h5 => exact .rp _ _ us h2 h3 h4 h5
        · simp [live] at h1
        · cases h1
      | succ j => have := k2 j (by simpa using hj) v (by simpa using hv); simpa using this
    · cases h
/-! ### make -/
def makeE (P : Program) (t : TypeId) (n m : PV) (d g : Nat) : Option Eff :=
  match P.underlying t, n, m with
  | some (.slice e), .int _ l, .int _ c =>
    match szOf P e, byOf P e, zeroOf P e with
    | some sz, some by_, some z =>
      match flatCs (fun _ => none) z with
      | some (zf, _) => if l = c ∧ 0 ≤ l ∧ (by_ : Int) * l ≤ 140737488355328 ∧ l ≤ 9223372036854775807 ∧ z.length = sz ∧ z.all leafB = true then
          some ⟨.sl ⟨d, g, 0⟩ 0 0 l.toNat sz, [], [(⟨d, g, 0⟩, ⟨0, true, true, (List.replicate l.toNat zf).flatten⟩)], true⟩ else none
      | none => none
    | _, _, _ => none
  | _, _, _ => none
theorem zff (z : Array Value) (n j : Nat) (h : j < n) (hz : z.size ≠ 0) : (madeCells z n).getD j undef = z.getD (j % z.size) undef := by
  have hm : j % z.size < z.size := Nat.mod_lt _ (Nat.pos_of_ne_zero hz)
  simp [madeCells, Array.getD_eq_getD_getElem?, h, hm]
theorem opEff_make {P : Program} {o : Oper} {s : St} {t : TypeId} {x y : Operand} {d : Nat} {e : Eff} (ho : o.op = .makeSlice t x y) (hd : o.dst = some d) (h : makeE P t (pv s.frame x) (pv s.frame y) d (s.gens d) = some e) : OpEff P o s e := by
  refine ⟨fun s' h1 h2 h3 => ?_⟩
  rw [← h3 d hd, ← h1 x (by simp [ho, Op.operands]), ← h1 y (by simp [ho, Op.operands])] at h
  clear h1 h2 h3
  unfold makeE at h
  split at h
  · rename_i et kl l kc c hu hx hy
    split at h
    · rename_i sz by_ z hsz hby hz
      split at h
      · rename_i zf xx hf
        split at h
        · rename_i hc
          obtain ⟨rfl, c2, c3, c4, c5, c6⟩ := hc
          injection h with h; subst h
          refine zml hd fun cx β a w hr => ?_
          have vx := zbs hr.frame x
          have vy := zbs hr.frame y
          rw [hx] at vx
          rw [hy] at vy
          obtain ⟨v0, hr0, hc0⟩ := zcx (E := env cx β s'.store w) hz c6 w
          obtain ⟨i, v1, hi, hv1, hzl⟩ := zhl hz
          obtain ⟨i', hi', hisz⟩ := zhq hsz
          obtain ⟨i'', hi'', hiby⟩ := zmc hby
          rw [hi] at hi' hi''
          injection hi' with hi'; subst hi'
          injection hi'' with hi''; subst hi''
          have hv01 : v0 = v1 := by
            have : (zeroValue et).run P w = .ok v1 w := by simp [zeroValue, typeInfo, hi, hv1]
            rw [this] at hr0; injection hr0 with hr0 _; exact hr0.symm
          subst hv01
          obtain ⟨zl, zv⟩ := zie (E := env cx β s'.store w) hf
          have hzs : v0.cells.size = sz := by rw [hc0.1, c5]
          have hlen : ((List.replicate l.toNat zf).flatten).length = l.toNat * sz := by rw [zer, zl, c5]
          refine ⟨.slice (some ⟨w.heap.size, 0, none⟩) l.toNat l.toNat, madeCells v0.cells (l.toNat * i.size), et, ?_, by rw [hlen, size_madeCells, hisz]; exact Nat.le_refl _, ?_, ?_, ?_⟩
          · simp only [execOp, ho, vx.int_inv, vy.int_inv, Sem.run_bind, run_make w t et i v0 hu hi hv1 kl kc l l c2 (Int.le_refl _) (by rw [hiby]; omega) c4, Result.andThen_ok, Sem.run_pure]
          · intro j hj
            rw [hlen] at hj
            have hsz0 : v0.cells.size ≠ 0 := by intro e; rw [hzs] at e; rw [e] at hj; simp at hj
            rw [zks zf _ _ _ (by rw [zl, c5]; exact hj), zl, c5, hisz, zff _ _ _ hj hsz0, hzs]
            have hm : j % sz < z.length := by rw [c5]; exact Nat.mod_lt _ (by omega)
            exact (zv _ hm _ (hc0.2.1 _ hm)).1
          · intro j hj
            rw [hlen] at hj
            have hsz0 : v0.cells.size ≠ 0 := by intro e; rw [hzs] at e; rw [e] at hj; simp at hj
            rw [hisz, zff _ _ _ hj hsz0, hzs]
            exact hc0.2.2 _ (by rw [c5]; exact Nat.mod_lt _ (by omega))
          · refine .sl _ _ _ _ _ _ ⟨0, true, true, (List.replicate l.toNat zf).flatten⟩ (by simp [env]) (Nat.le_refl _) (fun _ => ?_) rfl
            simp only [env, zds, SlAt]
            refine ⟨l.toNat, rfl, Nat.le_refl _, by simp only [maxLen]; omega, madeCells v0.cells (l.toNat * i.size), et, (0, 0), heap_alloc_new w _, ?_⟩
            rw [size_madeCells, hisz]; omega
        · cases h
      · cases h
    · cases h
  · cases h
/-! ### a literal of a slice -/
def fillL (sz : Nat) (cells : List PV) : List (Nat × List PV) → Option (List PV)
  | [] => some cells
  | (i, qs) :: rest => if qs.length = sz ∧ i * sz + sz ≤ cells.length then fillL sz (cells.take (i * sz) ++ qs ++ cells.drop (i * sz + sz)) rest else none
def flatParts (σ : Id → Option Blk) : List (Nat × PV) → Option (List (Nat × List PV) × List Id)
  | [] => some ([], [])
  | (i, p) :: r => if solid p = true then match flatCs σ (cellsOf p), flatParts σ r with
    | some (q, x), some (l, y) => some ((i, q) :: l, x ++ y)
    | _, _ => none else none
theorem zly {E : Env} {sz : Nat} : ∀ (ps : List (Nat × List PV)) (vs : List (Nat × Value)) (l L : List PV) (cs : Array Value), fillL sz l ps = some L → Cells E l cs →
    vs.length = ps.length → (∀ j, j < ps.length → (vs.getD j (0, undef)).1 = (ps.getD j (0, [])).1 ∧ Cells E (ps.getD j (0, [])).2 (vs.getD j (0, undef)).2.cells) →
    ∃ cs', Instr.fill (fun i => some (i * sz, sz)) cs vs = some cs' ∧ Cells E L cs'
  | [], vs, l, L, cs, h, hc, hl, _ => by
    obtain rfl : vs = [] := List.eq_nil_of_length_eq_zero hl
    injection h with h; subst h
    exact ⟨cs, rfl, hc⟩
  | (i, qs) :: ps, vs, l, L, cs, h, hc, hl, hv => by
    cases vs with
    | nil => cases hl
    | cons v vs =>
      obtain ⟨i', v⟩ := v
      obtain ⟨e, hp⟩ := hv 0 (by simp)
      simp at e hp
      subst e
      simp only [fillL] at h
      split at h
      · rename_i hcond
        obtain ⟨c2, c3⟩ := hcond
        obtain ⟨v1, v2, v3⟩ := hp
        obtain ⟨k1, k2, k3⟩ := hc
        obtain ⟨f1, f2⟩ := zkr (i' * sz) v.cells.toList 0 cs (by simp; omega)
        have hcs : Cells E (l.take (i' * sz) ++ qs ++ l.drop (i' * sz + sz)) ((v.cells.toList.zipIdx).foldl (fun cs x => cs.setIfInBounds (i' * sz + x.2) x.1) cs) := by
          have hget : ∀ j, (l.take (i' * sz) ++ qs ++ l.drop (i' * sz + sz)).getD j .any = if i' * sz ≤ j ∧ j < i' * sz + sz then qs.getD (j - i' * sz) .any else l.getD j .any := by
            intro j
            have := zcc l qs (i' * sz) j .any (by omega)
            rw [c2] at this
            exact this
          have hlen : (l.take (i' * sz) ++ qs ++ l.drop (i' * sz + sz)).length = l.length := by simp; omega
          refine ⟨by rw [f1, hlen]; exact k1, fun j hj => ?_, fun j hj => ?_⟩
          · rw [hlen] at hj
            rw [hget, f2]
            by_cases h1 : i' * sz ≤ j ∧ j < i' * sz + sz
            · rw [if_pos h1, if_pos (by simp; omega)]
              have := v2 (j - i' * sz) (by omega)
              simpa [Array.getD_eq_getD_getElem?, List.getD] using this
            · rw [if_neg h1, if_neg (by simp; omega)]
              exact k2 j hj
          · rw [hlen] at hj
            rw [f2]
            by_cases h1 : i' * sz ≤ j ∧ j < i' * sz + sz
            · rw [if_pos (by simp; omega)]
              have := v3 (j - i' * sz) (by omega)
              simpa [Array.getD_eq_getD_getElem?, List.getD] using this
            · rw [if_neg (by simp; omega)]
              exact k3 j hj
        obtain ⟨cs', e1, e2⟩ := zly ps vs _ L _ h hcs (by simpa using hl) (fun j hj => by have := hv (j + 1) (by simp; omega); simpa using this)
        refine ⟨cs', ?_, e2⟩
        simp only [Instr.fill]
        rw [if_neg (by simp; omega), zod]
        exact e1
      · cases h
theorem zes {σ σ' : Id → Option Blk} : ∀ {ps : List (Nat × PV)} {qs : List (Nat × List PV)} {ids : List Id}, flatParts σ ps = some (qs, ids) → (∀ id ∈ ids, σ' id = σ id) → flatParts σ' ps = some (qs, ids)
  | [], qs, ids, h, _ => h
  | (i, p) :: ps, qs, ids, h, hs => by
    simp only [flatParts] at *
    split at h
    · rename_i hso
      rw [if_pos hso]
      split at h
      · rename_i q x l y h1 h2
        injection h with h; injection h with e1 e2; subst e2
        rw [zdk h1 (fun id hid => hs id (by simp [hid])), zes h2 (fun id hid => hs id (by simp [hid]))]
        simp [e1]
      · cases h
    · cases h
theorem zgx {c : Ctx} {β : Id → Option (Nat × Nat)} {s : St} {a : Act} {w : World} (h : RelB c β s a w) (ids : List Id) : ∀ (ps : List (Nat × PV)) (qs : List (Nat × List PV)) (x : List Id), flatParts s.store ps = some (qs, x) → (∀ id ∈ x, id ∈ ids) →
    qs.length = ps.length ∧ ∀ j, j < ps.length → (qs.getD j (0, [])).1 = (ps.getD j (0, .any)).1 ∧ ∀ v, VR (env c β s.store w) (ps.getD j (0, .any)).2 v → Cells (env c β (wrs s.store (frzL s.store ids)) w).bare (qs.getD j (0, [])).2 v.cells
  | [], qs, x, hc, _ => by injection hc with hc; injection hc with h1 h2; subst h1; exact ⟨rfl, by simp⟩
  | (i, p) :: ps, qs, x, hc, hsub => by
    simp only [flatParts] at hc
    split at hc
    · rename_i hso
      split at hc
      · rename_i q x1 l y h1 h2
        injection hc with hc; injection hc with e1 e2; subst e1; subst e2
        obtain ⟨k1, k2⟩ := zgx h ids ps l y h2 (fun id hid => hsub id (by simp [hid]))
        refine ⟨by simp [k1], fun j hj => ?_⟩
        cases j with
        | zero =>
          simp
          intro v hv
          obtain ⟨m1, m2, m3⟩ := hv.cells hso
          obtain ⟨n1, n2⟩ := zif h ids _ _ _ h1 (fun id hid => hsub id (by simp [hid]))
          exact ⟨by rw [m1, n1], fun j hj => (n2 j (by omega) _ (m2 j (by omega))).1, fun j hj => m3 j (by omega)⟩
        | succ j => simp; have := k2 j (by simpa using hj); simpa using this
      · cases hc
    · cases hc
def litE (P : Program) (t : TypeId) (len : Nat) (ps : List (Nat × PV)) (σ : Id → Option Blk) (d g : Nat) : Option Eff :=
  match P.underlying t with
  | some (.slice e) =>
    match szOf P e, zeroOf P e with
    | some sz, some z =>
      match flatCs (fun _ => none) z, flatParts σ ps with
      | some (zf, _), some (qs, ids) =>
        if z.length = sz ∧ z.all leafB = true ∧ len * sz ≤ 16777216 ∧ len ≤ 16777216 then
          (fillL sz (List.replicate len zf).flatten qs).map fun L => ⟨.sl ⟨d, g, 0⟩ 0 0 len sz, ids, (⟨d, g, 0⟩, ⟨0, true, true, L⟩) :: frzL σ ids, true⟩
        else none
      | _, _ => none
    | _, _ => none
  | _ => none
theorem Cells.mono {E E' : Env} (L : E.Le E') {l : List PV} {cs : Array Value} (h : Cells E l cs) : Cells E' l cs := ⟨h.1, fun j hj => (h.2.1 j hj).mono L, h.2.2⟩
theorem zlz {sz : Nat} : ∀ (ps : List (Nat × List PV)) (l L : List PV), fillL sz l ps = some L → L.length = l.length
  | [], l, L, h => by injection h with h; rw [h]
  | (i, qs) :: ps, l, L, h => by
    simp only [fillL] at h
    split at h
    · rename_i hc
      rw [zlz ps _ L h]
      simp; omega
    · cases h
theorem frozen_le {c : Ctx} {β : Id → Option (Nat × Nat)} (σ : Id → Option Blk) (ids : List Id) (w : World) : (env c β σ w).Le (env c β (wrs σ (frzL σ ids)) w) := by
  refine ⟨?_, fun _ _ => rfl, fun _ _ h => h, ?_⟩
  · rintro g ⟨h1, h2, h3⟩
    refine ⟨h1, h2, fun id blk o q1 q2 q3 => ?_⟩
    have q1 : wrs σ (frzL σ ids) id = some blk := q1
    rw [zcb] at q1
    split at q1
    · cases hs : σ id with
      | none => rw [hs] at q1; cases q1
      | some b => rw [hs] at q1; injection q1 with q1; subst q1; cases q2
    · exact h3 id blk o q1 q2 q3
  · intro id blk hs
    simp only [env] at hs ⊢
    rw [zcb]
    split
    · rw [hs]; exact ⟨_, rfl, Nat.le_refl _, fun _ => by trivial⟩
    · exact ⟨blk, hs, Nat.le_refl _, fun _ => by trivial⟩
theorem opEff_lit {P : Program} {o : Oper} {s : St} {t : TypeId} {len : Nat} {ps : Array (Nat × Operand)} {d : Nat} {e : Eff} (ho : o.op = .buildSlice t len ps) (hd : o.dst = some d)
    (h : litE P t len (allParts (pv s.frame) ps.toList) s.store d (s.gens d) = some e) : OpEff P o s e := by
  refine ⟨fun s' h1 h2 h3 => ?_⟩
  have hap : allParts (pv s'.frame) ps.toList = allParts (pv s.frame) ps.toList := zdq _ fun x hx => h1 x (by simpa [ho, Op.operands] using hx)
  rw [← h3 d hd, ← hap] at h
  unfold litE at h
  split at h
  · rename_i et hu
    split at h
    · rename_i sz z hsz hz
      split at h
      · rename_i zf xx qs ids hf hq
        split at h
        · rename_i hc
          obtain ⟨c1, c2, c3, c4⟩ := hc
          cases hfl : fillL sz (List.replicate len zf).flatten qs with
          | none => rw [hfl] at h; cases h
          | some L =>
            rw [hfl] at h; injection h with h
            have hreads : ∀ id ∈ ids, s'.store id = s.store id := fun id hid => h2 id (by rw [← h]; exact hid)
            have hfr : frzL s.store ids = frzL s'.store ids := (zez ids hreads).symm
            rw [hfr] at h
            have hq : flatParts s'.store (allParts (pv s'.frame) ps.toList) = some (qs, ids) := zes hq hreads
            subst h
            clear h1 h2 h3
            intro cx a w K Q hr hn hK
            obtain ⟨β, hr⟩ := hr
            obtain ⟨v0, hr0, hc0⟩ := zcx (E := env cx β s'.store w) hz c2 w
            obtain ⟨zl, zv⟩ := zie (E := env cx β s'.store w) hf
            have hzs : v0.cells.size = sz := by rw [hc0.1, c1]
            have hLf := frozen_le (c := cx) (β := β) s'.store ids w
            obtain ⟨p1, p2⟩ := zgx hr ids _ _ _ hq (fun _ h => h)
            obtain ⟨g1, g2⟩ := zej hr.frame ps.toList
            have hzero : Cells (env cx β (wrs s'.store (frzL s'.store ids)) w).bare (List.replicate len zf).flatten ((Array.range (len * sz)).map (fun i => (if len * sz = 0 then #[] else v0.cells)[i % (if len * sz = 0 then #[] else v0.cells).size]!)) := by
              have hlen : ((List.replicate len zf).flatten).length = len * sz := by rw [zer, zl, c1]
              refine ⟨by simp [hlen], fun j hj => ?_, fun j hj => ?_⟩
              · rw [hlen] at hj
                have hne : len * sz ≠ 0 := by omega
                have hsz0 : sz ≠ 0 := by intro e; rw [e] at hne; simp at hne
                have hm : j % sz < sz := Nat.mod_lt _ (by omega)
                rw [zks zf _ _ _ (by rw [zl, c1]; exact hj), zl, c1]
                have : ((Array.range (len * sz)).map (fun i => (if len * sz = 0 then #[] else v0.cells)[i % (if len * sz = 0 then #[] else v0.cells).size]!)).getD j undef = v0.cells.getD (j % sz) undef := by
                  simp [hne, Array.getD_eq_getD_getElem?, hj, hzs, hm]
                rw [this]
                exact ((zv _ (by omega) _ (hc0.2.1 _ (by omega))).1).mono hLf.bare
              · rw [hlen] at hj
                have hne : len * sz ≠ 0 := by omega
                have hsz0 : sz ≠ 0 := by intro e; rw [e] at hne; simp at hne
                have hm : j % sz < sz := Nat.mod_lt _ (by omega)
                have : ((Array.range (len * sz)).map (fun i => (if len * sz = 0 then #[] else v0.cells)[i % (if len * sz = 0 then #[] else v0.cells).size]!)).getD j undef = v0.cells.getD (j % sz) undef := by
                  simp [hne, Array.getD_eq_getD_getElem?, hj, hzs, hm]
                rw [this]
                exact hc0.2.2 _ (by omega)
            obtain ⟨cs', e1, e2⟩ := zly qs (ps.map fun (i, x) => (i, a.eval x)).toList _ L _ hfl hzero (by simp [p1, g1]) (fun j hj => by
              rw [p1] at hj
              have k1 := p2 j hj
              have k2 := g2 j (by omega)
              have hl : (ps.map fun (i, x) => (i, a.eval x)).toList = ps.toList.map fun x => (x.1, a.eval x.2) := by simp
              rw [hl]
              exact ⟨by rw [k2.1, k1.1], k1.2 _ k2.2⟩)
            have hrun : (execOp a.eval o).run P w = .ok (.value (.slice (some ⟨w.heap.size, 0, none⟩) len len)) (w.alloc (.cells cs' et)) := by
              simp only [execOp, ho, Instr.buildSlice, Sem.run_bind, run_underlying hu, Result.andThen_ok, zav hsz]
              rw [if_neg (by omega)]
              by_cases hne : len * sz = 0
              · simp only [hne, if_true, Sem.run_bind, Sem.run_pure, Result.andThen_ok] at e1 ⊢
                rw [e1]
                simp [newRow, newObj, Sem.run]
              · simp only [hne, if_false, Sem.run_bind, hr0, Sem.run_pure, Result.andThen_ok] at e1 ⊢
                rw [e1]
                simp [newRow, newObj, Sem.run]
            have hLlen : L.length = len * sz := by rw [zlz qs _ L hfl, zer, zl, c1]
            have hnew := (hr.freezes ids).new d true L cs' et (by rw [e2.1]; exact Nat.le_refl _) (fun j hj => by simpa using e2.2.1 j hj) e2.2.2
            unfold Oper.wp
            rw [hrun]
            simp only [Oper.upon]
            refine hK _ _ ⟨_, (hnew.put o.dst (.sl ⟨d, s'.gens d, 0⟩ 0 0 len sz) _ hn fun _ _ => ?_).congr_store ?_ ?_ ?_⟩
            · refine .sl _ _ _ _ _ _ ⟨0, true, true, L⟩ (by simp [env]) (Nat.le_refl _) (fun _ => ?_) rfl
              simp only [env, zds, SlAt]
              refine ⟨len, rfl, Nat.le_refl _, ?_, cs', et, (0, 0), heap_alloc_new w _, ?_⟩
              · simp only [maxLen]
                omega
              · rw [e2.1, hLlen]; omega
            · simp [St.eff, St.put, hd]
            · simp [St.eff, St.put, hd, wrs]
            · simp [St.eff, St.put, hd]
        · cases h
      · cases h
    · cases h
  · cases h
end Go.Proofs.YthgldcflcmlgpaaGreatDoorE
end
section
/- Appends and copies. -/
set_option linter.unusedVariables false
set_option linter.unusedSimpArgs false
namespace Go.Proofs.YthgldcflcmlgpaaGreatDoorE
open Go.RowKit
def bytesP (s : ByteArray) : List PV := s.data.toList.map fun b => .int .u8 b.toNat
def srcV (P : Program) (t : TypeId) (sz : Nat) (x : PV) (σ : Id → Option Blk) : Option (List PV × Nat × List Id) :=
  match P.underlying t, x with
  | some (.slice _), .rd l m => if l.length = m * sz then some (l, m, []) else none
  | some (.slice _), .nilS => some ([], 0, [])
  | some (.slice _), .sl id ver off m sz' =>
    match live σ id ver with
    | some blk => if sz' = sz ∧ blk.flat = true ∧ off + m * sz ≤ blk.cells.length then some ((blk.cells.drop off).take (m * sz), m, [id]) else none
    | none => none
  | some .string, .str s => if sz = 1 then some (bytesP s, s.size, []) else none
  | _, _ => none
theorem zgj {P : Program} {t : TypeId} {sz : Nat} {x : PV} {σ σ' : Id → Option Blk} {l : List PV} {m : Nat} {rs : List Id} (h : srcV P t sz x σ = some (l, m, rs)) (hs : ∀ id ∈ rs, σ' id = σ id) : srcV P t sz x σ' = some (l, m, rs) := by
  unfold srcV at *
  split at h <;> first | exact h | skip
  split at h
  · rename_i e' id ver off n sz' hu _ blk hl
    split at h
    · rename_i hc
      injection h with h; injection h with h1 h2; injection h2 with h2 h3
      rw [zbf (hs id (by simp [← h3])), hl]
      subst h1; subst h2; subst h3
      exact if_pos hc
    · cases h
  · cases h
structure SrcR (P : Program) (E : Env) (tx : TypeId) (sz : Nat) (v : Value) (l : List PV) (m : Nat) (news : List Value) : Prop where
  kind : (∃ e', P.underlying tx = some (.slice e')) ∨ P.underlying tx = some .string
  len : ∀ w' : World, (Builtin.lenOf v).run P w' = .ok m w'
  cells : ∀ k, k ≤ m → ∀ w' : World, w'.heap = E.w.heap → (Builtin.firstCells sz k v).run P w' = .ok (news.take (k * sz)).toArray w'
  llen : l.length = m * sz
  nlen : news.length = m * sz
  vr : ∀ j, j < l.length → VR E.bare (l.getD j .any) (news.getD j undef)
  one : ∀ j, j < l.length → (news.getD j undef).oneCell' = true
theorem SrcR.mem_one {P : Program} {E : Env} {tx : TypeId} {sz : Nat} {v : Value} {l : List PV} {m : Nat} {news : List Value} (h : SrcR P E tx sz v l m news) : ∀ u ∈ news, u.oneCell' = true := by
  intro u hu
  obtain ⟨j, hj, rfl⟩ := List.getElem_of_mem hu
  have := h.one j (by rw [h.llen, ← h.nlen]; exact hj)
  simpa [List.getD, List.getElem?_eq_getElem hj] using this
theorem SrcR.src {P : Program} {E : Env} {tx : TypeId} {sz : Nat} {v : Value} {l : List PV} {m : Nat} {news : List Value} (h : SrcR P E tx sz v l m news) : Src P sz tx v m news E.w := by
  have h1 := h.cells m (Nat.le_refl _) E.w rfl
  have h2 := h.cells m (Nat.le_refl _) E.w.drew rfl
  rw [List.take_of_length_le (by rw [h.nlen]; exact Nat.le_refl _)] at h1 h2
  exact ⟨h.kind, h.len, h1, h2, h.nlen, h.mem_one⟩
theorem zek {P : Program} {w : World} {sz : Nat} (a : Addr) (m c k : Nat) (us : Nat → Value) (hk : k ≤ m) (h : ∀ j, j < m * sz → w.cell? (a.add j) = some (us j)) (w' : World) (hw : w'.heap = w.heap) :
    (Builtin.firstCells sz k (.slice (some a) m c)).run P w' = .ok (((List.range (m * sz)).map us).take (k * sz)).toArray w' := by
  have hle : k * sz ≤ m * sz := Nat.mul_le_mul_right _ hk
  simp only [Builtin.firstCells]
  rw [run_loadCells w' a (k * sz) us (fun j hj => by rw [← h j (by omega)]; exact cell?_congr (by rw [hw]))]
  congr 2
  apply List.ext_getElem?
  intro j
  by_cases hj : j < k * sz
  · simp [hj, show j < m * sz by omega, List.getElem?_take]
  · simp [hj, List.getElem?_take]
theorem zkc {P : Program} {c : Ctx} {β : Id → Option (Nat × Nat)} {s : St} {a : Act} {w : World} (hr : RelB c β s a w) {t : TypeId} {sz : Nat} {x : PV} {l : List PV} {m : Nat} {rs : List Id} (h : srcV P t sz x s.store = some (l, m, rs)) (hsz : sz ≠ 0)
    {v : Value} (hx : VR (env c β s.store w) x v) : ∃ news, SrcR P (env c β s.store w) t sz v l m news := by
  unfold srcV at h
  split at h
  · rename_i e' l' m' hu
    split at h
    · rename_i hl
      injection h with h; injection h with h1 h2; injection h2 with h2 h3; subst h1; subst h2
      obtain ⟨A, cc, rfl, hnc, hc⟩ := hx.rd_inv
      rcases hc with rfl | ⟨ad, us, rfl, hD, c1, c2, c3⟩
      · have hm : m' = 0 := by
          rw [List.length_nil] at hl
          rcases Nat.mul_eq_zero.1 hl.symm with hl | hl
          · exact hl
          · exact absurd hl hsz
        subst hm
        refine ⟨[], .inl ⟨e', hu⟩, fun _ => rfl, fun k hk w' _ => ?_, by simp, by simp, by simp, by simp⟩
        obtain rfl : k = 0 := by omega
        cases A <;> simp [Builtin.firstCells, loadCells, loadCellsFrom]
      · refine ⟨(List.range (m' * sz)).map us, .inl ⟨e', hu⟩, fun _ => rfl, fun k hk w' hw => zek (w := w) ad m' cc k us hk (fun j hj => c1 j (by omega)) w' hw, hl, by simp, fun j hj => ?_, fun j hj => ?_⟩
        · have := c2 j hj
          simpa [List.getD, show j < m' * sz by omega] using this
        · have := c3 j hj
          simpa [List.getD, show j < m' * sz by omega] using this
    · cases h
  · rename_i e' hu
    injection h with h; injection h with h1 h2; injection h2 with h2 h3; subst h1; subst h2
    rw [hx.nilS_inv]
    exact ⟨[], .inl ⟨e', hu⟩, fun _ => rfl, fun k hk w' _ => by simp [Builtin.firstCells], by simp, by simp, by simp, by simp⟩
  · rename_i e' id ver off m' sz' hu
    split at h
    · rename_i blk hl
      split at h
      · rename_i hc
        obtain ⟨rfl, hf, hfit⟩ := hc
        injection h with h; injection h with h1 h2; injection h2 with h2 h3; subst h1; subst h2
        obtain ⟨hb, hver⟩ := zbh hl
        have hs := hx.sl_inv hb hver
        unfold SlAt at hs
        split at hs
        · obtain ⟨rfl, rfl⟩ := hs
          refine ⟨[], .inl ⟨e', hu⟩, fun _ => rfl, fun k hk w' _ => by simp [Builtin.firstCells], by simp, by simp, by simp, by simp⟩
        · rename_i g o hβ
          obtain ⟨cap, rfl, k1, k2, k3⟩ := hs
          obtain ⟨_, cc, e, fz, hat⟩ := (hr.blocks id blk hb).at_ hβ
          have hlen : ((blk.cells.drop off).take (m' * sz')).length = m' * sz' := by simp; omega
          have hsize := hat.size
          refine ⟨(List.range (m' * sz')).map fun j => cc.getD (o + (off + j)) undef, .inl ⟨e', hu⟩, fun _ => rfl, fun k hk w' hw => zek (w := w) _ m' cap k _ hk (fun j hj => ?_) w' hw, hlen, by simp, fun j hj => ?_, fun j hj => ?_⟩
          · have hin : o + off + j < cc.size := by omega
            have := cell_of_row w g (o + off + j) cc e fz hat.heap
            rw [zmd cc _ hin] at this
            rw [add_lit, ← Nat.add_assoc]
            exact this
          · rw [hlen] at hj
            rw [zcn _ _ _ hj, zco]
            have := hat.cell (off + j) (by omega)
            rw [if_pos hf] at this
            simpa [List.getD, hj] using this
          · rw [hlen] at hj
            have := hat.one (off + j) (by omega)
            simpa [List.getD, hj] using this
      · cases h
    · cases h
  · rename_i st hu
    split at h
    · rename_i hs1
      subst hs1
      injection h with h; injection h with h1 h2; injection h2 with h2 h3; subst h1; subst h2
      rw [hx.str_inv]
      have hlen : st.data.toList.length = st.size := by rw [Array.length_toList]; rfl
      refine ⟨byteCells st, .inr hu, fun _ => rfl, fun k hk w' _ => ?_, by simp [bytesP], by rw [byteCells_length, Nat.mul_one], fun j hj => ?_, fun j hj => ?_⟩
      · simp [Builtin.firstCells, byteCells]
        apply Array.ext'
        simp [ByteArray.extract, ByteArray.copySlice, ← List.map_take]
      · simp [bytesP] at hj
        simp only [List.getD, bytesP, byteCells, List.getElem?_map]
        rw [List.getElem?_eq_getElem (by simpa using hj)]
        exact .int _ _
      · simp [bytesP] at hj
        simp only [List.getD, byteCells, List.getElem?_map]
        rw [List.getElem?_eq_getElem (by simpa using hj)]
        rfl
    · cases h
  · cases h
theorem RelB.writeNil {c : Ctx} {β : Id → Option (Nat × Nat)} {s : St} {a : Act} {w : World} (h : RelB c β s a w) (x : Id) (ver : Nat) (gens' : Nat → Nat)
    (hx : ∀ blk, s.store x = some blk → β x = none ∧ blk.ver ≤ ver) (hg : ∀ id blk, s.store id = some blk → id.g < gens' id.d) (hgx : x.g < gens' x.d) :
    RelB c (updI β x none) { s with store := updI s.store x (some ⟨ver, true, true, []⟩), gens := gens' } a w := by
  have L : (env c β s.store w).Le (env c (updI β x none) (updI s.store x (some ⟨ver, true, true, []⟩)) w) := by
    refine ⟨?_, fun _ _ => rfl, fun _ _ h => h, ?_⟩
    · rintro g ⟨h1, h2, h3⟩
      refine ⟨h1, h2, fun id blk o q1 q2 q3 => ?_⟩
      by_cases e : id = x
      · subst e; simp at q3
      · have q1 : updI s.store x (some ⟨ver, true, true, []⟩) id = some blk := q1
        have q3 : updI β x none id = some (g, o) := q3
        rw [zan _ _ _ _ e] at q1 q3
        exact h3 id blk o q1 q2 q3
    · intro id blk hs
      by_cases e : id = x
      · subst e
        obtain ⟨k1, k2⟩ := hx blk hs
        exact ⟨⟨ver, true, true, []⟩, by simp [env], k2, fun _ => by simp [env, k1]⟩
      · exact ⟨blk, by simp only [env]; rw [zan _ _ _ _ e]; exact hs, Nat.le_refl _, fun _ => by simp only [env]; rw [zan _ _ _ _ e]⟩
  refine h.turn _ gens' (Keeps.refl _ _ _) L ?_ ?_ ?_
  · intro id blk hs
    by_cases e : id = x
    · subst e
      simp at hs
      subst hs
      simp [BlkRel, env]
    · rw [zan _ _ _ _ e] at hs
      exact (h.blocks id blk hs).mono L (by simp only [env]; rw [zan _ _ _ _ e]) (fun _ _ _ => rfl)
  · intro id id' blk blk2 g o o' hs hs' ho hb hb'
    by_cases e : id = x
    · subst e; simp at hb
    · by_cases e' : id' = x
      · subst e'; simp at hb'
      · rw [zan _ _ _ _ e] at hs hb
        rw [zan _ _ _ _ e'] at hs' hb'
        exact h.inj id id' blk blk2 g o o' hs hs' ho hb hb'
  · intro id blk hs
    by_cases e : id = x
    · subst e; exact hgx
    · rw [zan _ _ _ _ e] at hs; exact hg id blk hs
def appendE (P : Program) (t tx : TypeId) (x y : PV) (σ : Id → Option Blk) (d g : Nat) : Option Eff :=
  match P.underlying t with
  | some (.slice e) =>
    match szOf P e, byOf P e, zeroOf P e with
    | some sz, some by_, some z =>
      match srcV P tx sz y σ with
      | some (l, m, rs) =>
        if sz ≠ 0 ∧ z.length = sz then
          match x with
          | .nilS => if m * by_ ≤ 140737488355328 ∧ m ≤ 9223372036854775807 then some ⟨.sl ⟨d, g, 0⟩ 0 0 m sz, rs, [(⟨d, g, 0⟩, ⟨0, true, true, l⟩)], true⟩ else none
          | .sl id ver off n sz' =>
            match live σ id ver with
            | some blk => if blk.own = true ∧ blk.flat = true ∧ sz' = sz ∧ off + n * sz ≤ blk.cells.length ∧ (n + m) * by_ ≤ 140737488355328 ∧ n + m ≤ 9223372036854775807 then
                some ⟨.sl id (ver + 1) 0 (n + m) sz, id :: rs, [(id, ⟨ver + 1, true, true, (blk.cells.drop off).take (n * sz) ++ l⟩)], false⟩ else none
            | none => none
          | _ => none
        else none
      | none => none
    | _, _, _ => none
  | _ => none
theorem run_append_room_row {P : Program} (w : World) (t tx ty e : TypeId) (i : TypeInfo) (ht : P.underlying t = some (.slice e)) (hi : P.info? e = some i) (g off sLen sCap : Nat) (cur : Array Value) (et : TypeId) (hg : w.heap[g]? = some (.cells cur et (0, 0)))
    (x : Value) (n : Nat) (news : List Value) (hs : Src P i.size tx x n news w) (hroom : sLen + n ≤ sCap) (hfit : off + sLen * i.size + news.length ≤ cur.size) :
    (Builtin.append_ #[t, tx] ty #[.slice (some ⟨g, off, none⟩) sLen sCap, x]).run P w = .ok (.slice (some ⟨g, off, none⟩) (sLen + n) sCap)
      (w.setRow g (cur.toList.take (off + sLen * i.size) ++ news ++ cur.toList.drop (off + sLen * i.size + news.length)).toArray) := by
  have hst := run_storeCells_at P g (off + sLen * i.size) et news 0 cur w hg (by simpa using hfit) hs.one
  simp only [Nat.add_zero] at hst
  rcases hs.kind with ⟨e', hk⟩ | hk <;> simp [Builtin.append_, run_underlying ht, run_underlying hk, sizeOf, typeInfo, hi, hs.len, hroom, hs.cells, Addr.add_lit, hst]
theorem zbe {P : Program} {o : Oper} {a : Act} {w w' : World} {x y : Operand} {t tx : TypeId} {v : Value} (ho : o.op = .call { callee := .builtin .append, args := #[x, y], argTypes := #[t, tx] })
    (h : (Builtin.append_ #[t, tx] o.type #[a.eval x, a.eval y]).run P w = .ok v w') : (execOp a.eval o).run P w = .ok (.value v) w' := by
  refine zdd ho ?_
  simp only [builtin, Sem.run_bind, List.map_toArray, List.map_cons, List.map_nil, h, Result.andThen_ok, Sem.run_pure]
theorem zdl (z : Array Value) (n : Nat) : (Builtin.zeroCells z n).size = n * z.size := by simp [Builtin.zeroCells]
theorem zim (a b : List Value) (c : Array Value) (j : Nat) (h : j < (a ++ b).length) : ((a ++ b).toArray ++ c).getD j undef = if j < a.length then a.getD j undef else b.getD (j - a.length) undef := by
  rw [Array.getD_eq_getD_getElem?, Array.getElem?_append_left (by simpa using h)]
  simp only [List.getElem?_toArray, List.getElem?_append]
  split <;> simp [List.getD]
theorem opEff_append {P : Program} {o : Oper} {s : St} {x y : Operand} {t tx : TypeId} {d : Nat} {e : Eff} (ho : o.op = .call { callee := .builtin .append, args := #[x, y], argTypes := #[t, tx] }) (hd : o.dst = some d)
    (h : appendE P t tx (pv s.frame x) (pv s.frame y) s.store d (s.gens d) = some e) : OpEff P o s e := by
  refine ⟨fun s' h1 h2 h3 => ?_⟩
  rw [← h3 d hd, ← h1 x (by simp [ho, Op.operands, Call.operands]), ← h1 y (by simp [ho, Op.operands, Call.operands])] at h
  unfold appendE at h
  split at h
  · rename_i et hu
    split at h
    · rename_i sz by_ z hsz hby hz
      split at h
      · rename_i l m rs hsrc
        split at h
        · rename_i hc0
          obtain ⟨hsz0, hzl⟩ := hc0
          obtain ⟨i, v0, hi, hv0, hz0⟩ := zhl hz
          obtain ⟨i', hi', hisz⟩ := zhq hsz
          obtain ⟨i'', hi'', hiby⟩ := zmc hby
          rw [hi] at hi' hi''
          injection hi' with hi'; subst hi'
          injection hi'' with hi''; subst hi''
          have hzs : v0.cells.size = sz := by rw [hz0] at hzl; simpa using hzl
          split at h
          · rename_i hpx
            split at h
            · rename_i hc
              obtain ⟨hcb, hcm⟩ := hc
              injection h with h
              have hsrc' := zgj hsrc (fun id hid => h2 id (by rw [← h]; exact hid))
              subst h
              clear h1 h2 h3
              intro cx a w K Q hr hn hK
              obtain ⟨β, hr⟩ := hr
              have vx := zbs hr.frame x
              rw [hpx] at vx
              obtain ⟨news, hS⟩ := zkc hr hsrc' hsz0 (zbs hr.frame y)
              have hS' := hS.src
              rw [← hisz] at hS'
              unfold Oper.wp
              by_cases hm : m = 0
              · subst hm
                have hrun : (execOp a.eval o).run P w = .ok (.value (.slice none 0 0)) w := by
                  refine zbe ho ?_
                  rw [vx.nilS_inv]
                  have hcz := hS.cells 0 (Nat.le_refl _) w rfl
                  simp only [Nat.zero_mul, List.take_zero] at hcz
                  rcases hS.kind with ⟨e', hk⟩ | hk <;> simp [Builtin.append_, run_underlying hu, run_underlying hk, sizeOf, typeInfo, hi, hS.len, hisz, hcz]
                rw [hrun]
                simp only [Oper.upon]
                have hll : l = [] := List.eq_nil_of_length_eq_zero (by rw [hS.llen]; simp)
                subst hll
                have hno := St.no_new hr d 0
                have hw := hr.writeNil ⟨d, s'.gens d, 0⟩ 0 (upd s'.gens d (s'.gens d + 1)) (fun blk hb => by rw [hno] at hb; cases hb) (fun id blk hb => by
                  have := hr.gens id blk hb
                  by_cases hd' : id.d = d
                  · rw [hd'] at this ⊢; simp; omega
                  · rw [zbj _ _ _ _ hd']; exact this) (by simp)
                refine hK _ _ ⟨_, (hw.put o.dst (.sl ⟨d, s'.gens d, 0⟩ 0 0 0 sz) _ hn fun _ _ => ?_).congr_store ?_ ?_ ?_⟩
                · exact .sl _ _ _ _ _ _ ⟨0, true, true, []⟩ (by simp [env]) (Nat.le_refl _) (fun _ => by simp [env, SlAt]) rfl
                · simp [St.eff, St.put, hd]
                · simp [St.eff, St.put, hd, wrs]
                · simp [St.eff, St.put, hd]
              · have hrun := run_append_grow_src (P := P) w t tx o.type et i v0 hu hi hv0 none 0 0 [] (by simp [Builtin.firstCells]) (a.eval y) m news hS' (by omega) (by omega) (by rw [hiby]; exact growslice_fits (by omega) (by simpa using hcb))
                simp only [Nat.zero_add, List.nil_append] at hrun
                rw [zbe (w' := w.drew.alloc (.cells (news.toArray ++ Builtin.zeroCells v0.cells (grownCap w m 0 et - m)) et)) ho (by rw [vx.nilS_inv]; exact hrun)]
                simp only [Oper.upon]
                have hcap := grownCap_ge w m 0 et
                have hcapm := grownCap_le_maxLen w m 0 et (by simp only [maxLen]; omega)
                have hnew := hr.drew.new d true l (news.toArray ++ Builtin.zeroCells v0.cells (grownCap w m 0 et - m)) et (by simp only [Array.size_append, List.size_toArray, hS.nlen, hS.llen]; omega)
                  (fun j hj => by
                    have := (hS.vr j hj).mono (zhi _ _ _ _).bare
                    rw [Array.getD_eq_getD_getElem?, Array.getElem?_append_left (by simp [hS.nlen]; rw [← hS.llen]; exact hj)]
                    simpa [List.getD] using this)
                  (fun j hj => by
                    have := hS.one j hj
                    rw [Array.getD_eq_getD_getElem?, Array.getElem?_append_left (by simp [hS.nlen]; rw [← hS.llen]; exact hj)]
                    simpa [List.getD] using this)
                refine hK _ _ ⟨_, (hnew.put o.dst (.sl ⟨d, s'.gens d, 0⟩ 0 0 m sz) _ hn fun _ _ => ?_).congr_store ?_ ?_ ?_⟩
                · refine .sl _ _ _ _ _ _ ⟨0, true, true, l⟩ (by simp [env]) (Nat.le_refl _) (fun _ => ?_) rfl
                  simp only [env, zds, SlAt]
                  refine ⟨grownCap w m 0 et, rfl, hcap, hcapm, _, et, (0, 0), heap_alloc_new w.drew _, ?_⟩
                  simp only [Array.size_append, List.size_toArray, hS.nlen, zdl, hzs]
                  rw [← Nat.add_mul]
                  exact Nat.le_of_eq (by simp [show m + (grownCap w m 0 et - m) = grownCap w m 0 et from by omega])
                · simp [St.eff, St.put, hd]
                · simp [St.eff, St.put, hd, wrs]
                · simp [St.eff, St.put, hd]
            · cases h
          · rename_i id ver off n sz' hpx
            split at h
            · rename_i blk hl
              split at h
              · rename_i hc
                obtain ⟨c1, c2, rfl, c4, c5, c6⟩ := hc
                injection h with h
                have hsrc' := zgj hsrc (fun id hid => h2 id (by rw [← h]; simp [hid]))
                have hl' : live s'.store id ver = some blk := by rw [zbf (h2 id (by rw [← h]; simp))]; exact hl
                subst h
                clear h1 h2 h3
                intro cx a w K Q hr hn hK
                obtain ⟨β, hr⟩ := hr
                obtain ⟨hb, hver⟩ := zbh hl'
                have vx := zbs hr.frame x
                rw [hpx] at vx
                obtain ⟨news, hS⟩ := zkc hr hsrc' hsz0 (zbs hr.frame y)
                have hS' := hS.src
                rw [← hisz] at hS'
                have hsl := vx.sl_inv hb hver
                have hgid : ∀ id' blk', s'.store id' = some blk' → id'.g < s'.gens id'.d := hr.gens
                have hlen' : ((blk.cells.drop off).take (n * sz')).length = n * sz' := by simp; omega
                have hLlen : ((blk.cells.drop off).take (n * sz') ++ l).length = (n + m) * sz' := by rw [List.length_append, hlen', hS.llen, Nat.add_mul]
                have hget : ∀ j, ((blk.cells.drop off).take (n * sz') ++ l).getD j .any = if j < n * sz' then blk.cells.getD (off + j) .any else l.getD (j - n * sz') .any := by
                  intro j
                  simp only [List.getD, List.getElem?_append, hlen']
                  split
                  · rename_i hj
                    rw [List.getElem?_take, if_pos hj, List.getElem?_drop]
                  · rfl
                unfold Oper.wp
                unfold SlAt at hsl
                split at hsl
                · rename_i hβ
                  have hβ : β id = none := hβ
                  obtain ⟨hv, hn0⟩ := hsl
                  subst hn0
                  by_cases hm : m = 0
                  · subst hm
                    have hrun : (execOp a.eval o).run P w = .ok (.value (.slice none 0 0)) w := by
                      refine zbe ho ?_
                      rw [hv]
                      have hcz := hS.cells 0 (Nat.le_refl _) w rfl
                      simp only [Nat.zero_mul, List.take_zero] at hcz
                      rcases hS.kind with ⟨e', hk⟩ | hk <;> simp [Builtin.append_, run_underlying hu, run_underlying hk, sizeOf, typeInfo, hi, hS.len, hisz, hcz]
                    rw [hrun]
                    simp only [Oper.upon]
                    have hll : l = [] := List.eq_nil_of_length_eq_zero (by rw [hS.llen]; simp)
                    subst hll
                    have hw := hr.writeNil id (ver + 1) s'.gens (fun b hb' => by rw [hb] at hb'; injection hb' with hb'; subst hb'; exact ⟨hβ, by omega⟩) hr.gens (hr.gens id blk hb)
                    refine hK _ _ ⟨_, (hw.put o.dst (.sl id (ver + 1) 0 (0 + 0) sz') _ hn fun _ _ => ?_).congr_store ?_ ?_ ?_⟩
                    · exact .sl _ _ _ _ _ _ ⟨ver + 1, true, true, []⟩ (by simp [env]) (Nat.le_refl _) (fun _ => by simp [env, SlAt]) rfl
                    · simp [St.eff, St.put, hd]
                    · simp [St.eff, St.put, hd, wrs]
                    · simp [St.eff, St.put, hd]
                  · have hrun := run_append_grow_src (P := P) w t tx o.type et i v0 hu hi hv0 none 0 0 [] (by simp [Builtin.firstCells]) (a.eval y) m news hS' (by omega) (by omega) (by rw [hiby]; exact growslice_fits (by omega) (by simpa using c5))
                    simp only [Nat.zero_add, List.nil_append] at hrun
                    rw [zbe (w' := w.drew.alloc (.cells (news.toArray ++ Builtin.zeroCells v0.cells (grownCap w m 0 et - m)) et)) ho (by rw [hv]; exact hrun)]
                    simp only [Oper.upon]
                    have hcap := grownCap_ge w m 0 et
                    have hcapm := grownCap_le_maxLen w m 0 et (by simp only [maxLen]; omega)
                    have hB := hr.keeps.size
                    have hnew := hr.drew.write (w' := w.drew.alloc (.cells (news.toArray ++ Builtin.zeroCells v0.cells (grownCap w m 0 et - m)) et)) id ⟨ver + 1, true, true, (blk.cells.drop off).take (0 * sz') ++ l⟩ w.heap.size 0 s'.gens (Keeps.alloc _ _ _ _ hB) (fun k _ hk => heap_alloc_old w.drew _ k hk) (.inl (Nat.le_refl _))
                      (fun b hb' => by rw [hb] at hb'; injection hb' with hb'; subst hb'; exact ⟨by simp; omega, fun e => by simp at e; omega⟩) (fun Le => ?_) hr.gens (hr.gens id blk hb)
                    · refine hK _ _ ⟨_, (hnew.put o.dst (.sl id (ver + 1) 0 (0 + m) sz') _ hn fun _ _ => ?_).congr_store ?_ ?_ ?_⟩
                      · refine .sl _ _ _ _ _ _ ⟨ver + 1, true, true, (blk.cells.drop off).take (0 * sz') ++ l⟩ (by simp [env]) (Nat.le_refl _) (fun _ => ?_) rfl
                        simp only [env, zds, SlAt, Nat.zero_add]
                        refine ⟨grownCap w m 0 et, rfl, hcap, hcapm, _, et, (0, 0), heap_alloc_new w.drew _, ?_⟩
                        simp only [Array.size_append, List.size_toArray, hS.nlen, zdl, hzs]
                        rw [← Nat.add_mul]
                        exact Nat.le_of_eq (by simp [show m + (grownCap w m 0 et - m) = grownCap w m 0 et from by omega])
                      · simp [St.eff, St.put, hd]
                      · simp [St.eff, St.put, hd, wrs]
                      · simp [St.eff, St.put, hd]
                    · simp only [Nat.zero_mul, List.take_zero, List.nil_append] at *
                      refine BlkAt.rel (g := w.heap.size) (o := 0) (c := news.toArray ++ Builtin.zeroCells v0.cells (grownCap w m 0 et - m)) (e := et) (fz := (0, 0)) ⟨heap_alloc_new w.drew _, fun _ => rfl, by simp only [Array.size_append, List.size_toArray, hS.nlen, hS.llen]; omega, fun j hj => ?_, fun j hj => ?_⟩ (by simp [env]) (.inl hB)
                      · have := hS.vr j hj
                        simp only [if_true]
                        rw [Nat.zero_add, Array.getD_eq_getD_getElem?, Array.getElem?_append_left (by simp [hS.nlen]; rw [← hS.llen]; exact hj)]
                        have := (this.mono (zhi _ _ _ _).bare).mono Le.bare
                        simpa [List.getD] using this
                      · have := hS.one j hj
                        rw [Nat.zero_add, Array.getD_eq_getD_getElem?, Array.getElem?_append_left (by simp [hS.nlen]; rw [← hS.llen]; exact hj)]
                        simpa [List.getD] using this
                · rename_i g o0 hβ
                  have hβ : β id = some (g, o0) := hβ
                  obtain ⟨cap, hv, k1, k2, k3⟩ := hsl
                  obtain ⟨_, cur, cet, fz, hat⟩ := (hr.blocks id blk hb).at_ hβ
                  have hfz := hat.own c1
                  subst hfz
                  have hheap : w.heap[g]? = some (.cells cur cet (0, 0)) := hat.heap
                  have hsize := hat.size
                  have hroom : o0 + off + cap * sz' ≤ cur.size := by
                    obtain ⟨cc, e', fz', q1, q2⟩ := k3
                    have q1 : w.heap[g]? = some (.cells cc e' fz') := q1
                    rw [hheap] at q1; injection q1 with q1; injection q1 with q1 _ _; subst q1; exact q2
                  by_cases hfit : n + m ≤ cap
                  · have hmul : (n + m) * sz' ≤ cap * sz' := Nat.mul_le_mul_right _ hfit
                    rw [Nat.add_mul] at hmul
                    have hrun := run_append_room_row (P := P) w t tx o.type et i hu hi g (o0 + off) n cap cur cet hheap (a.eval y) m news hS' hfit (by rw [hisz, hS.nlen]; omega)
                    rw [zbe ho (by rw [hv]; exact hrun)]
                    simp only [Oper.upon]
                    rw [hisz]
                    have hnl := hS.nlen
                    have hcur : ∀ j, ((cur.toList.take (o0 + off + n * sz') ++ news ++ cur.toList.drop (o0 + off + n * sz' + news.length)).toArray).getD j undef = if o0 + off + n * sz' ≤ j ∧ j < o0 + off + n * sz' + m * sz' then news.getD (j - (o0 + off + n * sz')) undef else cur.getD j undef := by
                      intro j
                      rw [zdh, zcc _ _ _ _ _ (by simp; omega), hnl, zcy cur]
                    have hcs : ((cur.toList.take (o0 + off + n * sz') ++ news ++ cur.toList.drop (o0 + off + n * sz' + news.length)).toArray).size = cur.size := by
                      simp only [List.size_toArray]; rw [zeg _ _ _ (by simp; omega)]; simp
                    have hre := hr.rewrite hb c1 hβ hheap _ hcs ⟨ver + 1, true, true, (blk.cells.drop off).take (n * sz') ++ l⟩ (o0 + off) ⟨by simp; omega, fun e => by simp at e; omega⟩ (by simp only; rw [hLlen, Nat.add_mul]; omega)
                      (fun j hj => ?_) (fun j hj => ?_)
                    · refine hK _ _ ⟨_, (hre.put o.dst (.sl id (ver + 1) 0 (n + m) sz') _ hn fun _ _ => ?_).congr_store ?_ ?_ ?_⟩
                      · refine .sl _ _ _ _ _ _ ⟨ver + 1, true, true, (blk.cells.drop off).take (n * sz') ++ l⟩ (by simp [env]) (Nat.le_refl _) (fun _ => ?_) rfl
                        simp only [env, zds, SlAt]
                        exact ⟨cap, rfl, hfit, k2, _, cet, (0, 0), setRow_heap w g cur _ cet (0, 0) hheap, by rw [hcs]; omega⟩
                      · simp [St.eff, St.put, hd]
                      · simp [St.eff, St.put, hd, wrs]
                      · simp [St.eff, St.put, hd]
                    · simp only [if_true] at hj ⊢
                      rw [hLlen, Nat.add_mul] at hj
                      rw [hget, hcur]
                      by_cases hj2 : j < n * sz'
                      · rw [if_pos hj2, if_neg (by omega)]
                        have := hat.cell (off + j) (by omega)
                        rw [if_pos c2] at this
                        rw [Nat.add_assoc]
                        exact this
                      · rw [if_neg hj2, if_pos (by omega)]
                        have := hS.vr (j - n * sz') (by rw [hS.llen]; omega)
                        rw [show o0 + off + j - (o0 + off + n * sz') = j - n * sz' by omega]
                        exact this
                    · simp only at hj ⊢
                      rw [hLlen, Nat.add_mul] at hj
                      rw [hcur]
                      by_cases hj2 : j < n * sz'
                      · rw [if_neg (by omega), Nat.add_assoc]
                        exact hat.one (off + j) (by omega)
                      · rw [if_pos (by omega), show o0 + off + j - (o0 + off + n * sz') = j - n * sz' by omega]
                        exact hS.one (j - n * sz') (by rw [hS.llen]; omega)
                  · have holds : ∀ j, j < n * sz' → w.cell? ((⟨g, o0 + off, none⟩ : Addr).add j) = some (cur.getD (o0 + off + j) undef) := by
                      intro j hj
                      rw [add_lit, cell_of_row w g _ cur cet (0, 0) hheap, zmd cur _ (by omega)]
                    have hold := zek (P := P) (w := w) (sz := sz') ⟨g, o0 + off, none⟩ n cap n (fun j => cur.getD (o0 + off + j) undef) (Nat.le_refl _) holds w.drew rfl
                    rw [List.take_of_length_le (by simp)] at hold
                    have hrun := run_append_grow_src (P := P) w t tx o.type et i v0 hu hi hv0 (some ⟨g, o0 + off, none⟩) n cap _ (by rw [hisz]; exact hold) (a.eval y) m news hS' (by omega) (by omega) (by rw [hiby]; exact growslice_fits (by omega) c5)
                    rw [zbe ho (by rw [hv]; exact hrun)]
                    simp only [Oper.upon]
                    have hcap := grownCap_ge w (n + m) cap et
                    have hcapm := grownCap_le_maxLen w (n + m) cap et (by simp only [maxLen]; omega)
                    have hB := hr.keeps.size
                    have hol : ((List.range (n * sz')).map fun j => cur.getD (o0 + off + j) undef).length = n * sz' := by simp
                    generalize hOs : ((List.range (n * sz')).map fun j => cur.getD (o0 + off + j) undef) = olds at *
                    have hold : ∀ j, j < n * sz' → olds.getD j undef = cur.getD (o0 + off + j) undef := by
                      intro j hj; rw [← hOs]; simp [List.getD, hj]
                    generalize hgc : grownCap w (n + m) cap et = gc at *
                    have hnew := hr.drew.write (w' := w.drew.alloc (.cells ((olds ++ news).toArray ++ Builtin.zeroCells v0.cells (gc - (n + m))) et)) id ⟨ver + 1, true, true, (blk.cells.drop off).take (n * sz') ++ l⟩ w.heap.size 0 s'.gens (Keeps.alloc _ _ _ _ hB) (fun k _ hk => heap_alloc_old w.drew _ k hk) (.inl (Nat.le_refl _))
                      (fun b hb' => by rw [hb] at hb'; injection hb' with hb'; subst hb'; exact ⟨by simp; omega, fun e => by simp at e; omega⟩) (fun Le => ?_) hr.gens (hr.gens id blk hb)
                    · refine hK _ _ ⟨_, (hnew.put o.dst (.sl id (ver + 1) 0 (n + m) sz') _ hn fun _ _ => ?_).congr_store ?_ ?_ ?_⟩
                      · refine .sl _ _ _ _ _ _ ⟨ver + 1, true, true, (blk.cells.drop off).take (n * sz') ++ l⟩ (by simp [env]) (Nat.le_refl _) (fun _ => ?_) rfl
                        simp only [env, zds, SlAt, Nat.zero_add]
                        refine ⟨gc, rfl, hcap, hcapm, _, et, (0, 0), heap_alloc_new w.drew _, ?_⟩
                        simp only [Array.size_append, List.size_toArray, List.length_append, hol, hS.nlen, zdl, hzs]
                        rw [← Nat.add_mul, ← Nat.add_mul]
                        exact Nat.le_of_eq (by rw [show n + m + (gc - (n + m)) = gc by omega])
                      · simp [St.eff, St.put, hd]
                      · simp [St.eff, St.put, hd, wrs]
                      · simp [St.eff, St.put, hd]
                    · refine BlkAt.rel (g := w.heap.size) (o := 0) (c := (olds ++ news).toArray ++ Builtin.zeroCells v0.cells (gc - (n + m))) (e := et) (fz := (0, 0)) ⟨heap_alloc_new w.drew _, fun _ => rfl, ?_, fun j hj => ?_, fun j hj => ?_⟩ (by simp [env]) (.inl hB)
                      · simp only; rw [hLlen]; simp only [Array.size_append, List.size_toArray, List.length_append, hol, hS.nlen, Nat.add_mul]; omega
                      · simp only [if_true] at hj ⊢
                        rw [hLlen, Nat.add_mul] at hj
                        rw [Nat.zero_add, zim _ _ _ _ (by rw [List.length_append, hol, hS.nlen]; exact hj), hget, hol]
                        by_cases hj2 : j < n * sz'
                        · rw [if_pos hj2, if_pos hj2, hold j hj2]
                          have := hat.cell (off + j) (by omega)
                          rw [if_pos c2] at this
                          rw [Nat.add_assoc]
                          exact (this.mono (zhi _ _ _ _).bare).mono Le.bare
                        · rw [if_neg hj2, if_neg hj2]
                          exact ((hS.vr (j - n * sz') (by rw [hS.llen]; omega)).mono (zhi _ _ _ _).bare).mono Le.bare
                      · simp only at hj ⊢
                        rw [hLlen, Nat.add_mul] at hj
                        rw [Nat.zero_add, zim _ _ _ _ (by rw [List.length_append, hol, hS.nlen]; exact hj), hol]
                        by_cases hj2 : j < n * sz'
                        · rw [if_pos hj2, hold j hj2, Nat.add_assoc]
                          exact hat.one (off + j) (by omega)
                        · rw [if_neg hj2]
                          exact hS.one (j - n * sz') (by rw [hS.llen]; omega)
              · cases h
            · cases h
          · cases h
        · cases h
      · cases h
    · cases h
  · cases h
end Go.Proofs.YthgldcflcmlgpaaGreatDoorE
end
section
/- What is handed over to a function, and what comes back. -/
set_option linter.unusedVariables false
set_option linter.unusedSimpArgs false
namespace Go.Proofs.YthgldcflcmlgpaaGreatDoorE
open Go.RowKit
def idx : List Id → Id → Nat → Option Nat
  | [], _, _ => none
  | x :: r, id, k => if x = id then some k else idx r id (k + 1)
theorem zhf : ∀ (l : List Id) (id : Id) (k j : Nat), idx l id k = some j → k ≤ j ∧ l[j - k]? = some id
  | [], _, _, _, h => by cases h
  | x :: r, id, k, j, h => by
    simp only [idx] at h
    split at h
    · rename_i e
      injection h with h; subst h; subst e
      exact ⟨Nat.le_refl _, by simp⟩
    · obtain ⟨h1, h2⟩ := zhf r id (k + 1) j h
      refine ⟨by omega, ?_⟩
      rw [show j - k = (j - (k + 1)) + 1 by omega]
      simpa using h2
def expC (σ : Id → Option Blk) (ret : List Id) : PV → Option (PV × List Id)
  | .any => some (.any, [])
  | .nilS => some (.rd [] 0, [])
  | .nilP => some (.nilP, [])
  | .nilI => some (.nilI, [])
  | .nilF => some (.nilF, [])
  | .int k n => some (.int k n, [])
  | .bool b => some (.bool b, [])
  | .str s => some (.str s, [])
  | .rd l n => some (.rd l n, [])
  | .rp l => some (.rp l, [])
  | .sl id ver off n sz =>
    match live σ id ver with
    | some blk =>
      match idx ret id 0 with
      | some j => some (.sl ⟨0, 0, j⟩ ver off n sz, [])
      | none => if blk.flat = true ∧ off + n * sz ≤ blk.cells.length ∧ (id.d ≠ 0 ∨ id.g ≠ 0) then some (.rd ((blk.cells.drop off).take (n * sz)) n, [id]) else none
    | none => none
  | .pt id ver off =>
    match live σ id ver with
    | some blk =>
      match idx ret id 0 with
      | some j => some (.pt ⟨0, 0, j⟩ ver off, [])
      | none => if blk.flat = false ∧ (id.d ≠ 0 ∨ id.g ≠ 0) then (flatCs σ blk.cells).map fun (qs, ids) => (.rp (qs.drop off), id :: ids) else none
    | none => none
  | .fn f [] [] => some (.fn f [] [], [])
  | _ => none
def expL (g : PV → Option (PV × List Id)) : List PV → Option (List PV × List Id)
  | [] => some ([], [])
  | p :: r => match g p, expL g r with
    | some (q, x), some (l, y) => some (q :: l, x ++ y)
    | _, _ => none
def expA (σ : Id → Option Blk) (ret : List Id) : PV → Option (PV × List Id)
  | .agg l => (expL (expC σ ret) l).map fun (l, x) => (.agg l, x)
  | p => expC σ ret p
def expP (σ : Id → Option Blk) (ret : List Id) : PV → Option (PV × List Id)
  | .tup l => (expL (expA σ ret) l).map fun (l, x) => (.tup l, x)
  | p => expA σ ret p
structure ExpEnv (E E' : Env) (ret tl : List Id) : Prop where
  w : E'.w = E.w
  D : ∀ g, E.D g → E'.D g
  tl : ∀ id ∈ tl, ∀ blk g o, (id.d ≠ 0 ∨ id.g ≠ 0) → E.σ id = some blk → E.β id = some (g, o) → E'.D g
  st : ∀ j id, ret[j]? = some id → ∀ blk, E.σ id = some blk → ∃ blk', E'.σ ⟨0, 0, j⟩ = some blk' ∧ blk'.ver = blk.ver ∧ E'.β ⟨0, 0, j⟩ = E.β id
theorem ExpEnv.bare {E E' : Env} {ret tl : List Id} (X : ExpEnv E E' ret tl) : E.bare.Le E'.bare :=
  ⟨X.D, fun g _ => by simp [Env.bare, X.w], fun g N h => by simpa [Env.bare, X.w] using h, fun id blk h => by simp [Env.bare] at h⟩
theorem VR.rd_bare {E : Env} {l : List PV} {n : Nat} {v : Value} (h : VR E (.rd l n) v) : VR E.bare (.rd l n) v := by
  cases h with
  | rd0 n A c h1 => exact .rd0 _ _ _ h1
  | rd l n a c us h1 h2 h3 h4 h5 => exact .rd _ _ _ _ us h1 h2 h3 h4 h5
theorem VR.rp_bare {E : Env} {l : List PV} {v : Value} (h : VR E (.rp l) v) : VR E.bare (.rp l) v := by
  cases h with
  | rp l a us h2 h3 h4 h5 => exact .rp _ _ us h2 h3 h4 h5
section
variable {E E' : Env} {ret tl : List Id} {B : Nat} {I : Id → Nat → Prop}
theorem zrq (X : ExpEnv E E' ret tl) (hblk : ∀ id blk, E.σ id = some blk → BlkRel E B I id blk) {id : Id} {ver off n sz : Nat} {blk : Blk} {v : Value} (hb : E.σ id = some blk) (hf : blk.flat = true) (hv : blk.ver = ver)
    (hl : off + n * sz ≤ blk.cells.length) (hi : id.d ≠ 0 ∨ id.g ≠ 0) (hid : id ∈ tl) (hx : VR E (.sl id ver off n sz) v) : VR E'.bare (.rd ((blk.cells.drop off).take (n * sz)) n) v := by
  have hs := hx.sl_inv hb hv
  have hr := hblk id blk hb
  unfold SlAt at hs
  split at hs
  · obtain ⟨rfl, rfl⟩ := hs
    rw [Nat.zero_mul, List.take_zero]
    exact .rd0 _ _ _ (Nat.le_refl _)
  · rename_i g o hβ
    obtain ⟨cap, rfl, h1, h2, h3⟩ := hs
    obtain ⟨h0, cc, e, fz, hat⟩ := hr.at_ hβ
    have hsz := hat.size
    have hlt : ∀ j, j < ((blk.cells.drop off).take (n * sz)).length → off + j < blk.cells.length ∧ j < n * sz := by
      intro j hj; simp at hj; omega
    refine .rd _ _ _ _ (fun j => cc.getD (o + (off + j)) undef) h1 (X.tl id hid blk g o hi hb hβ) (fun j hj => ?_) (fun j hj => ?_) fun j hj => ?_
    · obtain ⟨hj1, hj2⟩ := hlt j hj
      rw [add_lit]
      have := cell_of_row E.w g (o + off + j) cc e fz hat.heap
      have hin : o + off + j < cc.size := by omega
      rw [zmd cc _ hin] at this
      rw [← Nat.add_assoc]
      simpa [Env.bare, X.w] using this
    · obtain ⟨hj1, hj2⟩ := hlt j hj
      rw [zcn _ _ _ hj2, zco]
      have := hat.cell (off + j) hj1
      rw [if_pos hf] at this
      exact this.mono X.bare
    · exact hat.one (off + j) (hlt j hj).1
theorem flatC_exp (X : ExpEnv E E' ret tl) (hblk : ∀ id blk, E.σ id = some blk → BlkRel E B I id blk) {p q : PV} {x : List Id} (hc : flatC E.σ p = some (q, x)) (hsub : ∀ id ∈ x, id ∈ tl) {v : Value} (hv : VR E p v) : VR E'.bare q v := by
  unfold flatC at hc
  split at hc <;> first | (injection hc with hc; injection hc with h1 h2; subst h1) | skip
  · rw [hv.int_inv]; exact .int _ _
  · rw [hv.bool_inv]; exact .bool _
  · rw [hv.str_inv]; exact .str _
  · rw [hv.nilS_inv]; exact .rd0 _ _ _ (Nat.le_refl _)
  · rw [hv.nilP_inv]; exact .nilP
  · rw [hv.nilI_inv]; exact .nilI
  · rw [hv.nilF_inv]; exact .nilF
  · exact hv.rd_bare.mono X.bare
  · exact hv.rp_bare.mono X.bare
  · rename_i id ver off n sz
    split at hc
    · rename_i blk hl
      split at hc
      · rename_i hcond
        injection hc with hc; injection hc with h1 h2; subst h1
        obtain ⟨hb, hver⟩ := zbh hl
        exact zrq X hblk hb hcond.1 hver hcond.2.1 hcond.2.2 (hsub id (by simp [← h2])) hv
      · cases hc
    · cases hc
  · cases hc
theorem zjj (X : ExpEnv E E' ret tl) (hblk : ∀ id blk, E.σ id = some blk → BlkRel E B I id blk) : ∀ {ps qs : List PV} {x : List Id}, flatCs E.σ ps = some (qs, x) → (∀ id ∈ x, id ∈ tl) →
    qs.length = ps.length ∧ ∀ j, j < ps.length → ∀ v, VR E (ps.getD j .any) v → VR E'.bare (qs.getD j .any) v
  | [], qs, x, hc, _ => by injection hc with hc; injection hc with h1 h2; subst h1; exact ⟨rfl, by simp⟩
  | p :: ps, qs, x, hc, hsub => by
    simp only [flatCs] at hc
    split at hc
    · rename_i q x1 l y h1 h2
      injection hc with hc; injection hc with e1 e2; subst e1; subst e2
      obtain ⟨k1, k2⟩ := zjj X hblk h2 (fun id hid => hsub id (by simp [hid]))
      refine ⟨by simp [k1], fun j hj v hv => ?_⟩
      cases j with
      | zero => simp at hv ⊢; exact flatC_exp X hblk h1 (fun id hid => hsub id (by simp [hid])) hv
      | succ j => simp at hv ⊢; have := k2 j (by simpa using hj) v (by simpa using hv); simpa using this
    · cases hc
theorem zmv (X : ExpEnv E E' ret tl) (hblk : ∀ id blk, E.σ id = some blk → BlkRel E B I id blk) {p q : PV} {x : List Id} (hc : expC E.σ ret p = some (q, x)) (hsub : ∀ id ∈ x, id ∈ tl) {v : Value} (hv : VR E p v) : VR E' q v := by
  unfold expC at hc
  split at hc <;> first | (injection hc with hc; injection hc with h1 h2; subst h1) | skip
  · exact .any _
  · rw [hv.nilS_inv]; exact .rd0 _ _ _ (Nat.le_refl _)
  · rw [hv.nilP_inv]; exact .nilP
  · rw [hv.nilI_inv]; exact .nilI
  · rw [hv.nilF_inv]; exact .nilF
  · rw [hv.int_inv]; exact .int _ _
  · rw [hv.bool_inv]; exact .bool _
  · rw [hv.str_inv]; exact .str _
  · exact (hv.rd_bare.mono X.bare).of_bare
  · exact (hv.rp_bare.mono X.bare).of_bare
  · rename_i id ver off n sz
    split at hc
    · rename_i blk hl
      obtain ⟨hb, hver⟩ := zbh hl
      split at hc
      · rename_i j hj
        injection hc with hc; injection hc with h1 h2; subst h1
        obtain ⟨_, hj'⟩ := zhf ret id 0 j hj
        obtain ⟨blk', b1, b2, b3⟩ := X.st j id (by simpa using hj') blk hb
        refine .sl _ _ _ _ _ _ blk' b1 (by omega) (fun _ => ?_) (hv.leaf_one rfl)
        rw [b3, X.w]
        exact hv.sl_inv hb hver
      · split at hc
        · rename_i hcond
          injection hc with hc; injection hc with h1 h2; subst h1
          exact (zrq X hblk hb hcond.1 hver hcond.2.1 hcond.2.2 (hsub id (by simp [← h2])) hv).of_bare
        · cases hc
    · cases hc
  · rename_i id ver off
    split at hc
    · rename_i blk hl
      obtain ⟨hb, hver⟩ := zbh hl
      split at hc
      · rename_i j hj
        injection hc with hc; injection hc with h1 h2; subst h1
        obtain ⟨_, hj'⟩ := zhf ret id 0 j hj
        obtain ⟨blk', b1, b2, b3⟩ := X.st j id (by simpa using hj') blk hb
        refine .pt _ _ _ _ blk' b1 (by omega) (fun _ => ?_) (hv.leaf_one rfl)
        rw [b3]
        exact hv.pt_inv hb hver
      · split at hc
        · rename_i hcond
          cases hf : flatCs E.σ blk.cells with
          | none => rw [hf] at hc; cases hc
          | some y =>
            obtain ⟨qs, ids⟩ := y
            rw [hf] at hc
            injection hc with hc; injection hc with h1 h2; subst h1
            obtain ⟨g, o, hβ, rfl⟩ := hv.pt_inv hb hver
            obtain ⟨_, cc, e, fz, hat⟩ := (hblk id blk hb).at_ hβ
            obtain ⟨k1, k2⟩ := zjj X hblk hf (fun i hi => hsub i (by rw [← h2]; simp [hi]))
            have hsz := hat.size
            refine .rp _ _ (fun j => cc.getD (o + (off + j)) undef) (X.tl id (hsub id (by rw [← h2]; simp)) blk g o hcond.2 hb hβ) (fun j hj => ?_) (fun j hj => ?_) fun j hj => ?_
            · simp at hj
              rw [add_lit]
              have := cell_of_row E.w g (o + off + j) cc e fz hat.heap
              have hin : o + off + j < cc.size := by omega
              rw [zmd cc _ hin] at this
              rw [← Nat.add_assoc]
              simpa [X.w] using this
            · simp at hj
              rw [zco]
              exact k2 (off + j) (by omega) _ (hat.cell' (off + j) (by omega))
            · simp at hj
              exact hat.one (off + j) (by omega)
        · cases hc
    · cases hc
  · cases hv with | fn f fs cs va vb h1 h2 h3 h4 => exact .fn _ _ _ _ _ h1 h2 (by simp) (by simp)
  · cases hc
theorem zfi {g : PV → Option (PV × List Id)} (hg : ∀ p q x v, g p = some (q, x) → (∀ id ∈ x, id ∈ tl) → VR E p v → VR E' q v) : ∀ {ps qs : List PV} {x : List Id}, expL g ps = some (qs, x) → (∀ id ∈ x, id ∈ tl) →
    qs.length = ps.length ∧ ∀ j, j < ps.length → ∀ v, VR E (ps.getD j .any) v → VR E' (qs.getD j .any) v
  | [], qs, x, hc, _ => by injection hc with hc; injection hc with h1 h2; subst h1; exact ⟨rfl, by simp⟩
  | p :: ps, qs, x, hc, hsub => by
    simp only [expL] at hc
    split at hc
    · rename_i q x1 l y h1 h2
      injection hc with hc; injection hc with e1 e2; subst e1; subst e2
      obtain ⟨k1, k2⟩ := zfi hg h2 (fun id hid => hsub id (by simp [hid]))
      refine ⟨by simp [k1], fun j hj v hv => ?_⟩
      cases j with
      | zero => simp at hv ⊢; exact hg _ _ _ _ h1 (fun id hid => hsub id (by simp [hid])) hv
      | succ j => simp at hv ⊢; have := k2 j (by simpa using hj) v (by simpa using hv); simpa using this
    · cases hc
theorem zmw (X : ExpEnv E E' ret tl) (hblk : ∀ id blk, E.σ id = some blk → BlkRel E B I id blk) {p q : PV} {x : List Id} (hc : expA E.σ ret p = some (q, x)) (hsub : ∀ id ∈ x, id ∈ tl) {v : Value} (hv : VR E p v) : VR E' q v := by
  unfold expA at hc
  split at hc
  · rename_i l
    cases hl : expL (expC E.σ ret) l with
    | none => rw [hl] at hc; cases hc
    | some y =>
      obtain ⟨qs, ids⟩ := y
      rw [hl] at hc; injection hc with hc; injection hc with h1 h2; subst h1; subst h2
      obtain ⟨cs, rfl, a1, a2, a3⟩ := hv.agg_inv
      obtain ⟨k1, k2⟩ := zfi (E := E) (E' := E') (tl := tl) (fun p q x v h1 h2 h3 => zmv X hblk h1 h2 h3) hl hsub
      exact .agg _ _ (by rw [a1, k1]) (fun j hj => k2 j (by omega) _ (a2 j (by omega))) fun j hj => a3 j (by omega)
  · exact zmv X hblk hc hsub hv
theorem expP_VR (X : ExpEnv E E' ret tl) (hblk : ∀ id blk, E.σ id = some blk → BlkRel E B I id blk) {p q : PV} {x : List Id} (hc : expP E.σ ret p = some (q, x)) (hsub : ∀ id ∈ x, id ∈ tl) {v : Value} (hv : VR E p v) : VR E' q v := by
  unfold expP at hc
  split at hc
  · rename_i l
    cases hl : expL (expA E.σ ret) l with
    | none => rw [hl] at hc; cases hc
    | some y =>
      obtain ⟨qs, ids⟩ := y
      rw [hl] at hc; injection hc with hc; injection hc with h1 h2; subst h1; subst h2
      obtain ⟨cs, rfl, a1, a2⟩ := hv.tup_inv
      obtain ⟨k1, k2⟩ := zfi (E := E) (E' := E') (tl := tl) (fun p q x v h1 h2 h3 => zmw X hblk h1 h2 h3) hl hsub
      exact .tup _ _ (by rw [a1, k1]) fun j hj => k2 j (by omega) _ (a2 j (by omega))
  · exact zmw X hblk hc hsub hv
end
/-! ### contracts -/
def stOf (ib : List Blk) : Id → Option Blk := fun id => if id.d = 0 ∧ id.g = 0 then ib[id.j]? else none
def RelS (E : Env) (B : Nat) (I : Id → Nat → Prop) : Prop :=
  (∀ id blk, E.σ id = some blk → BlkRel E B I id blk) ∧
  (∀ id id' blk blk' g o o', E.σ id = some blk → E.σ id' = some blk' → blk.own = true → E.β id = some (g, o) → E.β id' = some (g, o') → id = id')
structure Entry (c : Ctx) (β0 : Id → Option (Nat × Nat)) (ps : List PV) (ib : List Blk) (args : Array Value) : Prop where
  size : args.size = ps.length
  vr : ∀ j, j < ps.length → VR (env c β0 (stOf ib) c.w0) (ps.getD j .any) (args.getD j undef)
  st : RelS (env c β0 (stOf ib) c.w0) c.w0.heap.size c.I
  own : ∀ id g, c.I id g → (stOf ib id).isSome = true
structure Leave (c : Ctx) (β0 : Id → Option (Nat × Nat)) (ib : List Blk) (r : PV) (rb : List Blk) (β' : Id → Option (Nat × Nat)) (v : Value) (w' : World) : Prop where
  keeps : Keeps c.w0.heap.size c.IS c.w0 w'
  vr : VR (env c β' (stOf rb) w') r v
  st : RelS (env c β' (stOf rb) w') c.w0.heap.size c.I
  old : ∀ id blk, stOf ib id = some blk → ∃ blk', stOf rb id = some blk' ∧ blk.ver ≤ blk'.ver ∧ (blk'.ver = blk.ver → β' id = β0 id)
def CallOk (P : Program) (f : FuncId) (ps : List PV) (ib : List Blk) (r : PV) (rb : List Blk) : Prop :=
  ∀ (c : Ctx) (β0 : Id → Option (Nat × Nat)) (args : Array Value), Entry c β0 ps ib args →
    Calls P f args c.w0 fun e w' => ∃ v β', e = .returned v ∧ Leave c β0 ib r rb β' v w'
end Go.Proofs.YthgldcflcmlgpaaGreatDoorE
end
section
/- Rules for code over abstract states. -/
set_option linter.unusedVariables false
set_option linter.unusedSimpArgs false
namespace Go.Proofs.YthgldcflcmlgpaaGreatDoorE
open Go.RowKit
def WP (P : Program) (nt : Nat) (c : Code) (Q : Exit → St → Prop) (s : St) : Prop :=
  ∀ (cx : Ctx) (a : Act) (w : World), cx.nt = nt → Rel cx s a w → c.wp P (fun e a' w' => ∃ s', Q e s' ∧ Rel cx s' a' w') a w
def thenQ (next : St → Prop) (Q : Exit → St → Prop) : Exit → St → Prop
  | .normal, s => next s
  | e, s => Q e s
def blockQ (id : Nat) (Q : Exit → St → Prop) : Exit → St → Prop
  | .exit id', s => if id' = id then Q .normal s else Q (.exit id') s
  | e, s => Q e s
section
variable {P : Program} {nt : Nat} {Q : Exit → St → Prop} {s : St}
theorem WP.mono {c : Code} {Q' : Exit → St → Prop} (h : WP P nt c Q s) (hq : ∀ e s, Q e s → Q' e s) : WP P nt c Q' s := fun cx a w hn hr =>
  wp_mono (h cx a w hn hr) fun e a w ⟨s', h1, h2⟩ => ⟨s', hq _ _ h1, h2⟩
theorem WP.skip (h : Q .normal s) : WP P nt .skip Q s := fun cx a w _ hr => wp_skip ⟨s, h, hr⟩
theorem WP.label {l : Nat} (h : Q .normal s) : WP P nt (.label l) Q s := fun cx a w _ hr => wp_label ⟨s, h, hr⟩
theorem WP.exit {id : Nat} (h : Q (.exit id) s) : WP P nt (.exit id) Q s := fun cx a w _ hr => wp_exit ⟨s, h, hr⟩
theorem WP.ret (h : Q .ret s) : WP P nt .ret Q s := fun cx a w _ hr => wp_ret ⟨s, h, hr⟩
theorem WP.seq {x y : Code} (h : WP P nt x (thenQ (fun s' => WP P nt y Q s') Q) s) : WP P nt (.seq x y) Q s := fun cx a w hn hr =>
  wp_seq (wp_mono (h cx a w hn hr) fun e a' w' ⟨s', h1, h2⟩ => by
    cases e <;> simp only [thenQ] at h1 <;> simp only [Exit.then] <;> first | exact h1 cx a' w' hn h2 | exact ⟨s', h1, h2⟩)
theorem WP.cond {c : Operand} {x y : Code} (b : Bool) (hc : pv s.frame c = .bool b) (ht : b = true → WP P nt x Q s) (hf : b = false → WP P nt y Q s) : WP P nt (.cond c x y) Q s := fun cx a w hn hr => by
  obtain ⟨β, hr'⟩ := hr
  have hv := zbs hr'.frame c
  rw [hc] at hv
  exact wp_cond_split hv.bool_inv (fun e => ht e cx a w hn ⟨β, hr'⟩) (fun e => hf e cx a w hn ⟨β, hr'⟩)
theorem WP.block {id : Nat} {c : Code} (h : WP P nt c (blockQ id Q) s) : WP P nt (.block id c) Q s := fun cx a w hn hr =>
  wp_block (wp_mono (h cx a w hn hr) fun e a' w' ⟨s', h1, h2⟩ => by
    cases e <;> simp only [blockQ] at h1 <;> simp only [Exit.inBlock]
    case exit id' =>
      split
      · rename_i e; rw [if_pos e] at h1; exact ⟨s', h1, h2⟩
      · rename_i e; rw [if_neg e] at h1; exact ⟨s', h1, h2⟩
    all_goals exact ⟨s', h1, h2⟩)
theorem zpx {p : Nat → Prop} (h : ∃ n, p n) : ∃ n, p n ∧ ∀ m, p m → n ≤ m := by
  obtain ⟨n, hn⟩ := h
  induction n using Nat.strongRecOn with
  | _ n ih =>
    by_cases hh : ∃ m, m < n ∧ p m
    · obtain ⟨m, h1, h2⟩ := hh
      exact ih m h1 h2
    · exact ⟨n, hn, fun m hm => Nat.le_of_not_lt fun hlt => hh ⟨m, hlt, hm⟩⟩
open Classical in
theorem WP.loop {c : Code} (I : Nat → St → Prop) (n : Nat) (h0 : I n s) (h : ∀ n s, I n s → WP P nt c (thenQ (fun s' => ∃ m, m < n ∧ I m s') Q) s) : WP P nt (.loop c) Q s := fun cx a w hn hr => by
  let J : Act → World → Prop := fun a w => ∃ n, ∃ s, I n s ∧ Rel cx s a w
  let μ : Act → World → Nat := fun a w => if hh : J a w then Classical.choose (zpx hh) else 0
  refine wp_loop J μ ⟨n, s, h0, hr⟩ fun a w hJ => ?_
  have hμ : μ a w = Classical.choose (zpx hJ) := dif_pos hJ
  obtain ⟨⟨s1, h1, h2⟩, _⟩ := Classical.choose_spec (zpx hJ)
  rw [← hμ] at h1
  refine wp_mono (h _ s1 h1 cx a w hn h2) fun e a' w' ⟨s', k1, k2⟩ => ?_
  cases e <;> simp only [thenQ] at k1 <;> simp only [Exit.then]
  case normal =>
    obtain ⟨m, hm, hI⟩ := k1
    have hJ' : J a' w' := ⟨m, s', hI, k2⟩
    refine ⟨hJ', ?_⟩
    have hμ' : μ a' w' = Classical.choose (zpx hJ') := dif_pos hJ'
    have := (Classical.choose_spec (zpx hJ')).2 m ⟨s', hI, k2⟩
    rw [← hμ'] at this
    omega
  all_goals exact ⟨s', k1, k2⟩
/-! ### a region in the order of its text -/
def wantedA (ops : Array Oper) (o : Oper) (f : Nat → PV) : Option Bool :=
  match o.guard with
  | none => some true
  | some (j, want) =>
    match (ops[j]?).bind (·.dst) with
    | some d => match f d with
      | .bool b => some (b == want)
      | .tup [] => some false
      | _ => none
    | none => none
def noEff : Eff := ⟨.tup [], [], [], false⟩
def Step (P : Program) (ops : Array Oper) (o : Oper) (s : St) (e : Eff) : Prop :=
  (wantedA ops o s.frame = some true ∧ OpEff P o s e) ∨ (wantedA ops o s.frame = some false ∧ e = noEff)
inductive Runs (P : Program) (ops : Array Oper) : List Oper → St → List Eff → St → Prop
  | nil (s : St) : Runs P ops [] s [] s
  | cons (o : Oper) (rest : List Oper) (s : St) (e : Eff) (es : List Eff) (s' : St) : Step P ops o s e → Runs P ops rest (s.eff o.dst e) es s' → Runs P ops (o :: rest) s (e :: es) s'
theorem zla {ops : Array Oper} {o : Oper} {f : Nat → PV} {b : Bool} {E : Env} {tmps : Array Value} (h : wantedA ops o f = some b) (hf : ∀ t, VR E (f t) (tmps.getD t undef)) : Region.wanted o (yielded ops tmps) = b := by
  unfold wantedA at h
  unfold Region.wanted
  split at h
  · rename_i hg
    injection h with h
    rw [hg]; exact h
  · rename_i j want hg
    rw [hg]
    split at h
    · rename_i d hd
      split at h
      · rename_i c hc
        injection h with h
        have hv := hf d
        rw [hc] at hv
        have hv := hv.bool_inv
        have hy : yielded ops tmps j = some c := by
          unfold yielded
          rw [hd]
          simp only [Option.bind_some]
          have : tmps[d]? = some (.bool c) := by
            rw [Array.getD_eq_getD_getElem?] at hv
            cases ht : tmps[d]? with
            | none => rw [ht] at hv; simp [undef] at hv
            | some u => rw [ht] at hv; simp at hv; rw [hv]
          rw [this]
        simp only [hy]
        rw [← h]
        cases c <;> cases want <;> rfl
      · rename_i hc
        injection h with h
        have hv := hf d
        rw [hc] at hv
        obtain ⟨cs, hv, hs, _⟩ := hv.tup_inv
        have hy : yielded ops tmps j = none := by
          unfold yielded
          rw [hd]
          simp only [Option.bind_some]
          rw [Array.getD_eq_getD_getElem?] at hv
          cases ht : tmps[d]? with
          | none => rfl
          | some u => rw [ht] at hv; simp at hv; rw [hv]
        simp only [hy]
        rw [← h]
        cases want <;> rfl
      · cases h
    · cases h
theorem zrg (s : St) (d : Option Nat) : s.eff d noEff = s.put d (.tup []) := St.eff_val s d (.tup []) []
theorem zni {ops : Array Oper} {o : Oper} {e : Eff} (h : Step P ops o s e) {cx : Ctx} {a : Act} {w : World} (hr : Rel cx s a w) (hd : ∀ d, o.dst = some d → d < cx.nt) {K : Act → World → Prop} {Q' : Exit → Act → World → Prop}
    (hK : ∀ a' w', Rel cx (s.eff o.dst e) a' w' → K a' w') : if Region.wanted o (yielded ops a.tmps) then o.wp P a w K Q' else K (a.put o.dst undef) w := by
  obtain ⟨β, hr'⟩ := hr
  rcases h with ⟨h1, h2⟩ | ⟨h1, rfl⟩
  · rw [if_pos (zla h1 hr'.frame)]
    exact h2.here cx a w K Q' ⟨β, hr'⟩ hd hK
  · rw [zla h1 hr'.frame]
    simp only [Bool.false_eq_true, if_false]
    refine hK _ _ ⟨β, ?_⟩
    rw [zrg]
    exact hr'.put o.dst (.tup []) undef hd fun _ _ => .tup _ _ rfl (by simp)
theorem zpi {ops : Array Oper} : ∀ {l : List Oper} {s : St} {es : List Eff} {s' : St}, Runs P ops l s es s' → (∀ o ∈ l, ∀ d, o.dst = some d → d < nt) → ∀ (cx : Ctx) (a : Act) (w : World), cx.nt = nt → Rel cx s a w → Q .normal s' →
    wpList P ops (fun e a' w' => ∃ s', Q e s' ∧ Rel cx s' a' w') l a w
  | _, _, _, _, .nil s, _, cx, a, w, _, hr, hq => wpList_nil ⟨s, hq, hr⟩
  | _, _, _, _, .cons o rest s e es s' h1 h2, hd, cx, a, w, hn, hr, hq =>
    wpList_step fun K hK => zni h1 hr (fun d hdd => by rw [hn]; exact hd o (by simp) d hdd) fun a' w' hr' => hK _ _ (zpi h2 (fun o' ho' => hd o' (by simp [ho'])) cx a' w' hn hr' hq)
def dstB (nt : Nat) (ops : List Oper) : Bool := ops.all fun o => match o.dst with | some d => decide (d < nt) | none => true
theorem zma {ops : List Oper} (h : dstB nt ops = true) : ∀ o ∈ ops, ∀ d, o.dst = some d → d < nt := by
  intro o ho d hd
  have := List.all_eq_true.1 h o ho
  rw [hd] at this
  simpa using this
theorem WP.region {id : Nat} {ops : Array Oper} {es : List Eff} {s' : St} (hd : dstB nt ops.toList = true) (h : Runs P ops ops.toList s es s') (hq : Q .normal s') : WP P nt (.region id ops false) Q s := fun cx a w hn hr =>
  wp_region_list (zpi h (zma hd) cx a w hn hr hq)
end
end Go.Proofs.YthgldcflcmlgpaaGreatDoorE
end
