/- The value of each operation that writes no memory, and that the machine yields it. -/
import Derived.Test.YtabofinagjdljaaEb
set_option linter.unusedVariables false
set_option linter.unusedSimpArgs false
namespace Go.Proofs.YtabofinagjdljaaE
open Go.RowKit

/-- A block that may be read through a value of this version. -/
def live (σ : Id → Option Blk) (id : Id) (ver : Nat) : Option Blk :=
  match σ id with
  | some blk => if blk.ver = ver then some blk else none
  | none => none

theorem live_spec {σ : Id → Option Blk} {id : Id} {ver : Nat} {blk : Blk} (h : live σ id ver = some blk) : σ id = some blk ∧ blk.ver = ver := by
  unfold live at h
  split at h
  · split at h
    · injection h with h; subst h; exact ⟨by assumption, by assumption⟩
    · cases h
  · cases h

/-- A value's cells. -/
def cellsOf : PV → List PV
  | .agg l => l
  | p => [p]
/-- Is it known to be one cell, or a struct's? -/
def leafB : PV → Bool
  | .any | .agg _ | .tup _ => false
  | _ => true
def solid : PV → Bool
  | .any | .tup _ => false
  | _ => true

theorem VR.leaf_one {E : Env} {p : PV} {v : Value} (h : VR E p v) (hl : leafB p = true) : v.oneCell' = true := by
  cases h <;> simp_all [leafB, Value.oneCell']

theorem VR.cells {E : Env} {p : PV} {v : Value} (h : VR E p v) (hs : solid p = true) :
    v.cells.size = (cellsOf p).length ∧ (∀ j, j < (cellsOf p).length → VR E ((cellsOf p).getD j .any) (v.cells.getD j undef)) ∧ (∀ j, j < (cellsOf p).length → (v.cells.getD j undef).oneCell' = true) := by
  cases p with
  | agg l =>
    obtain ⟨cs, rfl, h1, h2, h3⟩ := h.agg_inv
    exact ⟨h1, h2, h3⟩
  | any => simp [solid] at hs
  | tup l => simp [solid] at hs
  | _ =>
    have h1 := h.leaf_one rfl
    have hc : v.cells = #[v] := by cases v <;> simp_all [Value.cells, Value.oneCell']
    rw [hc]
    refine ⟨rfl, fun j hj => ?_, fun j hj => ?_⟩ <;> (have : j = 0 := by simp [cellsOf] at hj; omega) <;> subst this
    · simpa [cellsOf] using h
    · simpa using h1

/-! ### build -/
def fillP (place : Nat → Option (Nat × Nat)) (cells : List PV) : List (Nat × PV) → Option (List PV)
  | [] => some cells
  | (i, p) :: rest =>
    match place i with
    | none => none
    | some (off, size) =>
      if solid p && (cellsOf p).length == size && decide (off + size ≤ cells.length) then
        fillP place (cells.take off ++ cellsOf p ++ cells.drop (off + size)) rest
      else none

def placeS (P : Program) (fs : Array Field) (i : Nat) : Option (Nat × Nat) := (fs[i]?).bind fun f => (szOf P f.type).map fun s => (f.offset, s)

/-! ### the values -/
def idxV (P : Program) (t : TypeId) (x : PV) (i : Int) (σ : Id → Option Blk) : Option (PV × List Id) :=
  match P.underlying t, x with
  | some (.slice e), .rd l n => (szOf P e).bind fun sz => if 0 ≤ i ∧ i < n ∧ l.length = n * sz ∧ sz ≠ 0 then some (.rp (l.drop (i.toNat * sz)), []) else none
  | some (.slice e), .sl id ver off n sz' => (szOf P e).bind fun sz => if 0 ≤ i ∧ i < n ∧ sz = sz' then (live σ id ver).map fun _ => (.pt id ver (off + i.toNat * sz), [id]) else none
  | some (.array m e), .rp l => (szOf P e).bind fun sz => if 0 ≤ i ∧ i < m then some (.rp (l.drop (i.toNat * sz)), []) else none
  | some (.array m e), .pt id ver off => (szOf P e).bind fun sz => if 0 ≤ i ∧ i < m then (live σ id ver).map fun _ => (.pt id ver (off + i.toNat * sz), [id]) else none
  | _, _ => none

def fieldAddrV (P : Program) (s : TypeId) (x : PV) (f : Nat) (σ : Id → Option Blk) : Option (PV × List Id) :=
  match P.underlying s with
  | some (.struct fs) =>
    match fs[f]? with
    | some fd =>
      match szOf P fd.type, x with
      | some (_ + 1), .rp l => some (.rp (l.drop fd.offset), [])
      | some (_ + 1), .pt id ver off => (live σ id ver).map fun _ => (.pt id ver (off + fd.offset), [id])
      | _, _ => none
    | none => none
  | _ => none

def partV (P : Program) (t : TypeId) (l : List PV) (off : Nat) : Option PV :=
  match aggOf P t, szOf P t with
  | some true, some sz => if off + sz ≤ l.length then some (.agg ((l.drop off).take sz)) else none
  | some false, some _ => l[off]?
  | _, _ => none

def fieldV (P : Program) (t : TypeId) (x : PV) (f : Nat) : Option PV :=
  match P.underlying t, x with
  | some (.struct fs), .agg l => (fs[f]?).bind fun fd => partV P fd.type l fd.offset
  | _, _ => none

/-- The byte of a string at a place. -/
def byt (s : ByteArray) (i : Int) : Int := if h : i.toNat < s.size then ((s[i.toNat]'h).toNat : Int) else 0

def indexV (P : Program) (t : TypeId) (x : PV) (i : Int) : Option PV :=
  match P.underlying t, x with
  | some .string, .str s => if 0 ≤ i ∧ i < s.size then some (.int .u8 (byt s i)) else none
  | some (.array m e), .agg l => (szOf P e).bind fun sz => if 0 ≤ i ∧ i < m then partV P e l (i.toNat * sz) else none
  | _, _ => none

def extractV (x : PV) (i : Nat) : Option PV :=
  match x with
  | .tup l => l[i]?
  | _ => none

/-- The bounds of a cut: from, to. -/
def boundsV (len cap : Nat) (lo hi mx : Option PV) : Option (Nat × Nat) :=
  match mx with
  | none =>
    match hi with
    | some (.int _ h) => if 0 ≤ h ∧ h ≤ cap then (match lo with
        | some (.int _ l) => if 0 ≤ l ∧ l ≤ h then some (l.toNat, h.toNat) else none
        | none => some (0, h.toNat)
        | _ => none) else none
    | none => (match lo with
        | some (.int _ l) => if 0 ≤ l ∧ l ≤ len then some (l.toNat, len) else none
        | none => some (0, len)
        | _ => none)
    | _ => none
  | some (.int _ m) =>
    match hi with
    | some (.int _ h) => if 0 ≤ m ∧ m ≤ cap ∧ 0 ≤ h ∧ h ≤ m then (match lo with
        | some (.int _ l) => if 0 ≤ l ∧ l ≤ h then some (l.toNat, h.toNat) else none
        | none => some (0, h.toNat)
        | _ => none) else none
    | _ => none
  | _ => none

def sliceV (P : Program) (t : TypeId) (x : PV) (lo hi mx : Option PV) (σ : Id → Option Blk) : Option (PV × List Id) :=
  match P.underlying t, x with
  | some .string, .str s => if mx.isSome then none else (boundsV s.size s.size lo hi none).map fun (l, h) => (.str (s.extract l h), [])
  | some (.slice e), .rd l n => (szOf P e).bind fun sz => (boundsV n n lo hi mx).bind fun (a, b) => if l.length = n * sz then some (.rd ((l.drop (a * sz)).take ((b - a) * sz)) (b - a), []) else none
  | some (.slice e), .sl id ver off n sz' => (szOf P e).bind fun sz => if sz = sz' then (boundsV n n lo hi mx).bind fun (a, b) => if a = 0 ∨ a < b then (live σ id ver).map fun _ => (.sl id ver (off + a * sz) (b - a) sz, [id]) else none else none
  | some (.slice e), .nilS => (szOf P e).bind fun _ => (boundsV 0 0 lo hi mx).map fun _ => (.nilS, [])
  | some (.array m e), .pt id ver off => (szOf P e).bind fun sz => (boundsV m m lo hi mx).bind fun (a, b) => (live σ id ver).bind fun blk => if off + m * sz ≤ blk.cells.length ∧ m ≤ 4096 ∧ (a = 0 ∨ a < b) then some (.sl id ver (off + a * sz) (b - a) sz, [id]) else none
  | _, _ => none

def lenV (P : Program) (t : TypeId) (x : PV) (σ : Id → Option Blk) : Option (PV × List Id) :=
  match P.underlying t, x with
  | some .string, .str s => some (.int .i64 s.size, [])
  | some (.slice _), .rd _ n => some (.int .i64 n, [])
  | some (.slice _), .nilS => some (.int .i64 0, [])
  | some (.slice _), .sl id ver _ n _ => (live σ id ver).map fun _ => (.int .i64 n, [id])
  | some (.array m _), _ => some (.int .i64 m, [])
  | _, _ => none

def foldV (f : Int → Int → Int) : IntKind → Int → List PV → Option PV
  | k, x, [] => some (.int k x)
  | k, x, .int _ y :: r => foldV f k (f x y) r
  | _, _, _ => none
def mx2 (x y : Int) : Int := if y > x then y else x
def mn2 (x y : Int) : Int := if y < x then y else x

def convV (P : Program) (src dst : TypeId) (x : PV) : Option PV :=
  match P.underlying src, P.underlying dst, x with
  | some _, some (.int k), .int _ n => some (.int k (k.wrap n))
  | some _, some .string, .str s => some (.str s)
  | _, _, _ => none

def unV (op : UnOp) (x : PV) : Option PV :=
  match op, x with
  | .neg, .int k n => some (.int k (k.wrap (0 - n)))
  | .xor, .int k n => some (.int k (bitsOf .xor k (if k.signed then -1 else k.max) n))
  | .not, .bool b => some (.bool !b)
  | _, _ => none

def allParts (ρ : Operand → PV) : List (Nat × Operand) → List (Nat × PV)
  | [] => []
  | (i, x) :: r => (i, ρ x) :: allParts ρ r

def buildV (P : Program) (t : TypeId) (parts : List (Nat × PV)) : Option PV :=
  match P.underlying t, zeroOf P t with
  | some (.struct fs), some z => if z.all leafB && fs.toList.all (fun f => (szOf P f.type).isSome) then (fillP (placeS P fs) z parts).map .agg else none
  | some (.array _ e), some z => if z.all leafB then (szOf P e).bind fun sz => (fillP (fun i => some (i * sz, sz)) z parts).map .agg else none
  | _, _ => none

def evalV (P : Program) (op : Op) (ρ : Operand → PV) (σ : Id → Option Blk) : Option (PV × List Id) :=
  match op with
  | .move x | .assign x => some (ρ x, [])
  | .pick c a b => match ρ c with
    | .bool t => some (if t then ρ a else ρ b, [])
    | _ => none
  | .nilCheck x => match ρ x with
    | .pt id ver off => (live σ id ver).map fun _ => (.pt id ver off, [id])
    | .rp l => some (.rp l, [])
    | _ => none
  | .binOp o t x y _ => (binV P o t (ρ x) (ρ y)).map fun p => (p, [])
  | .unOp o _ x => (unV o (ρ x)).map fun p => (p, [])
  | .convert s d x => (convV P s d (ρ x)).map fun p => (p, [])
  | .build t ps => (buildV P t (allParts ρ ps.toList)).map fun p => (p, [])
  | .field t x f => (fieldV P t (ρ x) f).map fun p => (p, [])
  | .extract x i => (extractV (ρ x) i).map fun p => (p, [])
  | .fieldAddr s x f => fieldAddrV P s (ρ x) f σ
  | .indexAddr t x i => match ρ i with
    | .int _ n => idxV P t (ρ x) n σ
    | _ => none
  | .index t x i => match ρ i with
    | .int _ n => (indexV P t (ρ x) n).map fun p => (p, [])
    | _ => none
  | .slice t x lo hi mx => sliceV P t (ρ x) (lo.map ρ) (hi.map ρ) (mx.map ρ) σ
  | .makeFunc (.func f) fi ca => some (.fn f (fi.toList.map ρ) (ca.toList.map ρ), [])
  | .call { callee := .builtin .len, args, argTypes } => match args.toList, argTypes.toList with
    | [x], [t] => lenV P t (ρ x) σ
    | _, _ => none
  | .call { callee := .builtin .max, args, .. } => match args.toList.map ρ with
    | .int k x :: r => (foldV mx2 k x r).map fun p => (p, [])
    | _ => none
  | .call { callee := .builtin .min, args, .. } => match args.toList.map ρ with
    | .int k x :: r => (foldV mn2 k x r).map fun p => (p, [])
    | _ => none
  | _ => none

end Go.Proofs.YtabofinagjdljaaE
