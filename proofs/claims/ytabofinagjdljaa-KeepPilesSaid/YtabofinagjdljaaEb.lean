/- Operations that only make a value: what they make of abstract operands, and that the machine makes just this. -/
import Derived.Test.YtabofinagjdljaaEa
import Derived.Laws.StructEq
set_option linter.unusedVariables false
set_option linter.unusedSimpArgs false
namespace Go.Proofs.YtabofinagjdljaaE
open Go.RowKit

def ofConst : Value → PV
  | .int k n => .int k n
  | .bool b => .bool b
  | .string s => .str s
  | .slice none 0 0 => .nilS
  | .pointer none => .nilP
  | .nilIface => .nilI
  | .nilFunc => .nilF
  | _ => .any

def pv (f : Nat → PV) : Operand → PV
  | .tmp t => f t
  | .const v => ofConst v
  | .global _ => .any
  | .func f => .fn f [] []

theorem VR_const (E : Env) (v : Value) : VR E (ofConst v) v := by
  unfold ofConst
  split <;> first | exact .int _ _ | exact .bool _ | exact .str _ | exact .nilS | exact .nilP | exact .nilI | exact .nilF | exact .any _

theorem VR_pv {E : Env} {f : Nat → PV} {a : Act} (h : ∀ t, VR E (f t) (a.tmps.getD t undef)) (x : Operand) : VR E (pv f x) (a.eval x) := by
  cases x with
  | tmp t => exact h t
  | const v => exact VR_const E v
  | global g => exact .any _
  | func f => exact .fn f [] [] #[] #[] rfl rfl (by simp) (by simp)

def szOf (P : Program) (t : TypeId) : Option Nat := (P.info? t).map (·.size)
def byOf (P : Program) (t : TypeId) : Option Nat := (P.info? t).map (·.bytes)
def zeroOf (P : Program) (t : TypeId) : Option (List PV) := ((P.info? t).bind (·.zero)).map fun v => v.cells.toList.map ofConst
def aggD : TypeDesc → Bool
  | .struct _ | .array _ _ => true
  | _ => false
def aggOf (P : Program) (t : TypeId) : Option Bool := (P.underlying t).map aggD

section inv
variable {E : Env} {v : Value}
theorem VR.int_inv {k : IntKind} {n : Int} (h : VR E (.int k n) v) : v = .int k n := by cases h; rfl
theorem VR.bool_inv {b : Bool} (h : VR E (.bool b) v) : v = .bool b := by cases h; rfl
theorem VR.str_inv {s : ByteArray} (h : VR E (.str s) v) : v = .string s := by cases h; rfl
theorem VR.nilS_inv (h : VR E .nilS v) : v = .slice none 0 0 := by cases h; rfl
theorem VR.nilP_inv (h : VR E .nilP v) : v = .pointer none := by cases h; rfl
theorem VR.nilI_inv (h : VR E .nilI v) : v = .nilIface := by cases h; rfl
theorem VR.nilF_inv (h : VR E .nilF v) : v = .nilFunc := by cases h; rfl
theorem VR.agg_inv {l : List PV} (h : VR E (.agg l) v) : ∃ cs, v = .agg cs ∧ cs.size = l.length ∧ (∀ j, j < l.length → VR E (l.getD j .any) (cs.getD j undef)) ∧ (∀ j, j < l.length → (cs.getD j undef).oneCell' = true) := by
  cases h with | agg l cs h1 h2 h3 => exact ⟨cs, rfl, h1, h2, h3⟩
theorem VR.tup_inv {l : List PV} (h : VR E (.tup l) v) : ∃ cs, v = .tuple cs ∧ cs.size = l.length ∧ (∀ j, j < l.length → VR E (l.getD j .any) (cs.getD j undef)) := by
  cases h with | tup l cs h1 h2 => exact ⟨cs, rfl, h1, h2⟩
theorem VR.rd_inv {l : List PV} {n : Nat} (h : VR E (.rd l n) v) : ∃ A c, v = .slice A n c ∧ n ≤ c ∧ (l = [] ∨ ∃ (a : Addr) (us : Nat → Value), A = some a ∧ E.D a.block ∧
    (∀ j, j < l.length → E.w.cell? (a.add j) = some (us j)) ∧ (∀ j, j < l.length → VR E.bare (l.getD j .any) (us j)) ∧ (∀ j, j < l.length → (us j).oneCell' = true)) := by
  cases h with
  | rd0 n A c h0 => exact ⟨A, c, rfl, h0, .inl rfl⟩
  | rd l n a c us h0 h1 h2 h3 h4 => exact ⟨some a, c, rfl, h0, .inr ⟨a, us, rfl, h1, h2, h3, h4⟩⟩
theorem VR.rp_inv {l : List PV} (h : VR E (.rp l) v) : ∃ (a : Addr) (us : Nat → Value), v = .pointer (some a) ∧ E.D a.block ∧
    (∀ j, j < l.length → E.w.cell? (a.add j) = some (us j)) ∧ (∀ j, j < l.length → VR E.bare (l.getD j .any) (us j)) ∧ (∀ j, j < l.length → (us j).oneCell' = true) := by
  cases h with | rp l a us h1 h2 h3 h4 => exact ⟨a, us, rfl, h1, h2, h3, h4⟩
theorem VR.sl_inv {id : Id} {ver off n sz : Nat} {blk : Blk} (h : VR E (.sl id ver off n sz) v) (hb : E.σ id = some blk) (hv : blk.ver = ver) : SlAt E.w (E.β id) off n sz v := by
  cases h with | sl _ _ _ _ _ _ blk' h1 h2 h3 h4 => rw [hb] at h1; injection h1 with h1; subst h1; exact h3 hv
theorem VR.pt_inv {id : Id} {ver off : Nat} {blk : Blk} (h : VR E (.pt id ver off) v) (hb : E.σ id = some blk) (hv : blk.ver = ver) : PtAt (E.β id) off v := by
  cases h with | pt _ _ _ _ blk' h1 h2 h3 h4 => rw [hb] at h1; injection h1 with h1; subst h1; exact h3 hv
theorem VR.sl_dom {id : Id} {ver off n sz : Nat} (h : VR E (.sl id ver off n sz) v) : ∃ blk, E.σ id = some blk ∧ ver ≤ blk.ver := by
  cases h with | sl _ _ _ _ _ _ blk' h1 h2 h3 h4 => exact ⟨blk', h1, h2⟩
theorem VR.pt_dom {id : Id} {ver off : Nat} (h : VR E (.pt id ver off) v) : ∃ blk, E.σ id = some blk ∧ ver ≤ blk.ver := by
  cases h with | pt _ _ _ _ blk' h1 h2 h3 h4 => exact ⟨blk', h1, h2⟩
end inv

/-! ### arithmetic -/
def bitsOf (op : BinOp) (k : IntKind) (a b : Int) : Int :=
  match op with
  | .and => k.wrap ((BitVec.ofInt k.bits a &&& BitVec.ofInt k.bits b).toNat)
  | .or => k.wrap ((BitVec.ofInt k.bits a ||| BitVec.ofInt k.bits b).toNat)
  | .xor => k.wrap ((BitVec.ofInt k.bits a ^^^ BitVec.ofInt k.bits b).toNat)
  | _ => k.wrap ((BitVec.ofInt k.bits a &&& ~~~ BitVec.ofInt k.bits b).toNat)

def binI (op : BinOp) (k k' : IntKind) (a b : Int) : Option PV :=
  match op with
  | .shl => if b < 0 then none else some (.int k (k.wrap (a * 2 ^ (min b.toNat k.bits))))
  | .shr => if b < 0 then none else some (.int k (a.fdiv (2 ^ (min b.toNat k.bits))))
  | .add => if k = k' then some (.int k (k.wrap (a + b))) else none
  | .sub => if k = k' then some (.int k (k.wrap (a - b))) else none
  | .mul => if k = k' then some (.int k (k.wrap (a * b))) else none
  | .quo => if k = k' then (if b = 0 then none else some (.int k (k.wrap (a.tdiv b)))) else none
  | .rem => if k = k' then (if b = 0 then none else some (.int k (a.tmod b))) else none
  | .eql => if k = k' then some (.bool (a == b)) else none
  | .neq => if k = k' then some (.bool (a != b)) else none
  | .lss => if k = k' then some (.bool (decide (a < b))) else none
  | .leq => if k = k' then some (.bool (decide (a ≤ b))) else none
  | .gtr => if k = k' then some (.bool (decide (a > b))) else none
  | .geq => if k = k' then some (.bool (decide (a ≥ b))) else none
  | .and | .or | .xor | .andNot => if k = k' then some (.int k (bitsOf op k a b)) else none

def binS (op : BinOp) (x y : ByteArray) : Option PV :=
  match op with
  | .add => if x.size + y.size ≤ 9223372036854775807 then some (.str (x ++ y)) else none
  | .eql => some (.bool (x.toList == y.toList))
  | .neq => some (.bool (!(x.toList == y.toList)))
  | .lss => some (.bool (Op.bytesLess x.toList y.toList))
  | _ => none

/-- Two cells of one field, held against each other. -/
def eqCell (P : Program) (t : TypeId) (p q : PV) : Option Bool :=
  match P.underlying t, p, q with
  | some (.int _), .int k a, .int k' b => if k = k' then some (a == b) else none
  | some .bool, .bool a, .bool b => some (a == b)
  | some .string, .str a, .str b => some (a.toList == b.toList)
  | _, _, _ => none
def eqFl (P : Program) (a b : List PV) : List Field → Option Bool
  | [] => some true
  | f :: r => if f.name = "_" then none else
    match a[f.offset]?, b[f.offset]? with
    | some p, some q => (eqCell P f.type p q).bind fun x => (eqFl P a b r).map fun y => x && y
    | _, _ => none
/-- A struct type whose values may be held against each other. -/
def eqT (P : Program) (t : TypeId) : Bool := !P.eqGuardType P.depth t && !P.stoodInHeld t

def binV (P : Program) (op : BinOp) (t : TypeId) (x y : PV) : Option PV :=
  match x, y with
  | .int k a, .int k' b => binI op k k' a b
  | .str a, .str b => binS op a b
  | .bool a, .bool b => (match P.underlying t, op with | some .bool, .eql => some (.bool (a == b)) | some .bool, .neq => some (.bool (a != b)) | _, _ => none)
  | .agg a, .agg b =>
    match eqT P t, P.underlying t, op with
    | true, some (.struct fs), .eql => (eqFl P a b fs.toList).map .bool
    | true, some (.struct fs), .neq => (eqFl P a b fs.toList).map fun c => .bool (!c)
    | _, _, _ => none
  | _, _ => none

theorem run_binI {P : Program} {w : World} {op : BinOp} {t : TypeId} {k k' : IntKind} {a b : Int} {p : PV} {E : Env} {X Y : Operand} (h : binI op k k' a b = some p) :
    ∃ v, (do eqGuard op t X Y (.int k a) (.int k' b); binOp op t (.int k a) (.int k' b) : Sem Value).run P w = .ok v w ∧ VR E p v := by
  have hg : (eqGuard op t X Y (.int k a) (.int k' b)).run P w = .ok () w := by
    unfold eqGuard
    cases op <;> simp
  simp only [Sem.run_bind, hg, Result.andThen_ok]
  cases op <;> simp only [binI] at h <;>
    first
      | (split at h <;> first | (cases h; done) | (rename_i hb; injection h with h; subst h; refine ⟨_, ?_, by first | exact .int _ _ | exact .bool _⟩; simp [binOp, Op.shift, Op.intArith, Op.intDiv, Op.intBits, Op.intCmp, bitsOf, hb]; try omega))
      | (split at h
         · rename_i hk
           subst hk
           first
             | (injection h with h; subst h; refine ⟨_, ?_, by first | exact .int _ _ | exact .bool _⟩; simp [binOp, Op.shift, Op.intArith, Op.intDiv, Op.intBits, Op.intCmp, bitsOf]; done)
             | (split at h
                · cases h
                · rename_i hb; injection h with h; subst h; refine ⟨_, ?_, by first | exact .int _ _ | exact .bool _⟩; simp [binOp, Op.shift, Op.intArith, Op.intDiv, Op.intBits, Op.intCmp, bitsOf, hb])
         · cases h)
      | (cases h; done)

theorem run_binS {P : Program} {w : World} {op : BinOp} {t : TypeId} {a b : ByteArray} {p : PV} {E : Env} {X Y : Operand} (h : binS op a b = some p) :
    ∃ v, (do eqGuard op t X Y (.string a) (.string b); binOp op t (.string a) (.string b) : Sem Value).run P w = .ok v w ∧ VR E p v := by
  have hg : (eqGuard op t X Y (.string a) (.string b)).run P w = .ok () w := by
    unfold eqGuard
    cases op <;> simp
  simp only [Sem.run_bind, hg, Result.andThen_ok]
  cases op <;> simp only [binS] at h <;> try (cases h; done)
  · split at h
    · rename_i hs
      injection h with h; subst h
      refine ⟨_, ?_, .str _⟩
      simp [binOp, Op.stringOp, IntKind.max, IntKind.signed, IntKind.bits]
      omega
    · cases h
  all_goals (injection h with h; subst h; refine ⟨_, ?_, .bool _⟩; simp [binOp, Op.stringOp])

theorem run_equalIn_bool {P : Program} {w : World} {t : TypeId} (d : Nat) (a b : Bool) (ht : P.underlying t = some .bool) : (Op.equalIn (d + 1) t (.bool a) (.bool b)).run P w = .ok (a == b) w := by
  simp only [Op.equalIn, Sem.run_bind, run_underlying ht, Result.andThen_ok, Sem.run_pure]
theorem run_equal_bool {P : Program} {w : World} {t : TypeId} (a b : Bool) (ht : P.underlying t = some .bool) : (Op.equal t (.bool a) (.bool b)).run P w = .ok (a == b) w :=
  run_equalIn_bool 9999 a b ht

theorem run_binB {P : Program} {w : World} {op : BinOp} {t : TypeId} {a b : Bool} {p : PV} {E : Env} {X Y : Operand} (h : binV P op t (.bool a) (.bool b) = some p) :
    ∃ v, (do eqGuard op t X Y (.bool a) (.bool b); binOp op t (.bool a) (.bool b) : Sem Value).run P w = .ok v w ∧ VR E p v := by
  have hg : (eqGuard op t X Y (.bool a) (.bool b)).run P w = .ok () w := by
    unfold eqGuard
    cases op <;> simp
  simp only [Sem.run_bind, hg, Result.andThen_ok]
  simp only [binV] at h
  split at h
  · rename_i ht
    injection h with h; subst h; refine ⟨_, ?_, .bool _⟩; simp only [binOp, Sem.run_bind, run_equal_bool a b ht, Result.andThen_ok, Sem.run_pure]
  · rename_i ht
    injection h with h; subst h; refine ⟨_, ?_, .bool _⟩; simp only [binOp, Sem.run_bind, run_equal_bool a b ht, Result.andThen_ok, Sem.run_pure]
    cases a <;> cases b <;> rfl
  · cases h

theorem run_part_one {P : Program} {w : World} {t : TypeId} {cs : Array Value} {off : Nat} {d : TypeDesc} (ht : P.underlying t = some d) (hd : aggD d = false) (h : off < cs.size) :
    (part t cs off).run P w = .ok (cs.getD off undef) w := by
  have hagg : (isAgg t).run P w = .ok false w := by
    unfold isAgg
    rw [Sem.run_bind, run_underlying ht w]
    cases d <;> simp_all [aggD]
  simp [part, Sem.run_bind, hagg, h, Array.getD]

theorem run_eqCell {P : Program} {w : World} {E : Env} {t : TypeId} {p q : PV} {u v : Value} {b : Bool} (d : Nat) (h : eqCell P t p q = some b) (hp : VR E p u) (hq : VR E q v) :
    (Op.equalIn (d + 1) t u v).run P w = .ok b w ∧ ∃ k, P.underlying t = some k ∧ aggD k = false := by
  unfold eqCell at h
  split at h
  · rename_i ht
    split at h
    · rename_i hk; subst hk; injection h with h; subst h
      rw [hp.int_inv, hq.int_inv]
      exact ⟨run_equalIn_int w d t _ _ _ _ ht, _, ht, rfl⟩
    · cases h
  · rename_i ht
    injection h with h; subst h
    rw [hp.bool_inv, hq.bool_inv]
    exact ⟨run_equalIn_bool' w d t _ _ ht, _, ht, rfl⟩
  · rename_i ht
    injection h with h; subst h
    rw [hp.str_inv, hq.str_inv]
    exact ⟨run_equalIn_string w d t _ _ ht, _, ht, rfl⟩
  · cases h

theorem getD_of_getElem? {l : List PV} {j : Nat} {p : PV} (h : l[j]? = some p) : l.getD j .any = p := by simp [List.getD, h]

theorem run_eqFl {P : Program} {w : World} {E : Env} {a b : List PV} {xs ys : Array Value} (d : Nat) (hx : xs.size = a.length) (hy : ys.size = b.length)
    (ha : ∀ j, j < a.length → VR E (a.getD j .any) (xs.getD j undef)) (hb : ∀ j, j < b.length → VR E (b.getD j .any) (ys.getD j undef)) :
    ∀ (fs : List Field) (r : Bool), eqFl P a b fs = some r → (Op.eqFields (d + 1) xs ys fs).run P w = .ok r w
  | [], r, h => by simp [eqFl] at h; subst h; simp [Op.eqFields]
  | f :: fs, r, h => by
    simp only [eqFl] at h
    split at h
    · cases h
    · rename_i hn
      split at h
      · rename_i p q hp hq
        cases hc : eqCell P f.type p q with
        | none => simp [hc] at h
        | some x =>
          cases hr : eqFl P a b fs with
          | none => simp [hc, hr] at h
          | some y =>
            simp [hc, hr] at h
            subst h
            obtain ⟨ha1, _⟩ := List.getElem?_eq_some_iff.1 hp
            obtain ⟨hb1, _⟩ := List.getElem?_eq_some_iff.1 hq
            have va := ha f.offset ha1
            have vb := hb f.offset hb1
            rw [getD_of_getElem? hp] at va
            rw [getD_of_getElem? hq] at vb
            obtain ⟨he, k, hk, hk2⟩ := run_eqCell (w := w) d hc va vb
            have ih := run_eqFl (w := w) d hx hy ha hb fs y hr
            rw [Op.eqFields, if_pos hn]
            simp only [Sem.run_bind, run_part_one (w := w) hk hk2 (show f.offset < xs.size by omega), run_part_one (w := w) hk hk2 (show f.offset < ys.size by omega), he, Result.andThen_ok]
            cases x
            · simp
            · simpa using ih
      · cases h

theorem run_binA {P : Program} {w : World} {E : Env} {op : BinOp} {t : TypeId} {a b : List PV} {u v : Value} {p : PV} {X Y : Operand} (h : binV P op t (.agg a) (.agg b) = some p) (hu : VR E (.agg a) u) (hv : VR E (.agg b) v) :
    ∃ r, (do eqGuard op t X Y u v; binOp op t u v : Sem Value).run P w = .ok r w ∧ VR E p r := by
  obtain ⟨xs, rfl, hx, ha, _⟩ := hu.agg_inv
  obtain ⟨ys, rfl, hy, hb, _⟩ := hv.agg_inv
  simp only [binV] at h
  split at h
  · rename_i fs hT hS
    simp [eqT] at hT
    cases hr : eqFl P a b fs.toList with
    | none => rw [hr] at h; cases h
    | some r =>
      rw [hr] at h; injection h with h; subst h
      have hf : P.fieldsOf t = fs := by simp only [Program.fieldsOf, hS]
      refine ⟨_, ?_, .bool _⟩
      have h1 := run_equalIn_struct (P := P) w 9999 t xs ys (by rw [hf]; exact hS) hT.2
      rw [hf, run_eqFl 9998 hx hy ha hb _ r hr] at h1
      simp only [Sem.run_bind, run_eqGuard_agg w _ t X Y xs ys hT.1, Result.andThen_ok, run_eql_struct, h1]
  · rename_i fs hT hS
    simp [eqT] at hT
    cases hr : eqFl P a b fs.toList with
    | none => rw [hr] at h; cases h
    | some r =>
      rw [hr] at h; injection h with h; subst h
      have hf : P.fieldsOf t = fs := by simp only [Program.fieldsOf, hS]
      refine ⟨_, ?_, .bool _⟩
      have h1 := run_equalIn_struct (P := P) w 9999 t xs ys (by rw [hf]; exact hS) hT.2
      rw [hf, run_eqFl 9998 hx hy ha hb _ r hr] at h1
      simp only [Sem.run_bind, run_eqGuard_agg w _ t X Y xs ys hT.1, Result.andThen_ok, run_neq_struct, h1]
  · cases h

theorem run_binV {P : Program} {w : World} {E : Env} {op : BinOp} {t : TypeId} {x y p : PV} {u v : Value} {X Y : Operand} (h : binV P op t x y = some p) (hx : VR E x u) (hy : VR E y v) :
    ∃ r, (do eqGuard op t X Y u v; binOp op t u v : Sem Value).run P w = .ok r w ∧ VR E p r := by
  have h0 := h
  unfold binV at h
  split at h
  · rw [hx.int_inv, hy.int_inv]; exact run_binI h
  · rw [hx.str_inv, hy.str_inv]; exact run_binS h
  · rw [hx.bool_inv, hy.bool_inv]; exact run_binB h0
  · exact run_binA h0 hx hy
  · cases h

end Go.Proofs.YtabofinagjdljaaE
