import Derived.Laws.BytesString
import Derived.Test.YthgldcflcmlgpaaGreatDoorShelf
import Derived.WalkKit
import Derived.BigCall
import Derived.Test.YthgldcflcmlgpaaGreatDoorRows
import Derived.ProofKit
import Derived.OpenShut
import Derived.Carry
import Derived.Test.YthgldcflcmlgpaaGreatDoorM0
import Derived.Test.YthgldcflcmlgpaaGreatDoorM1
import Derived.Test.YthgldcflcmlgpaaGreatDoorM2
import Derived.Test.YthgldcflcmlgpaaGreatDoorM3
import Derived.Test.YthgldcflcmlgpaaGreatDoorM4
import Derived.Test.YthgldcflcmlgpaaGreatDoorM5
section
/- Texts: the nine digits of a word. -/
set_option linter.unusedVariables false
set_option linter.unusedSimpArgs false
namespace Go.Proofs.YthgldcflcmlgpaaGreatDoorE
open Go.RowKit
set_option maxRecDepth 100000
attribute [local simp] List.getElem?_cons_zero List.getElem?_cons_succ List.getElem?_nil wrap_i64 stOf st0 effF effC evalV evalL zfd zcr pv_t pv_c pv_g pv_f ofConst binV binI lenV foldV mx2 mn2 unV convV extractV idxV indexV fieldAddrV fieldV partV sliceV boundsV loadL live storeE appendE srcV litE makeE IntKind.bits copyE boxE allocE flatParts flatCs flatC allParts cellsOf solid leafB fillL frzL buildV fillP placeS eqFl eqCell St.eff St.put wrs callE renP renA renC renI nid newL renB noEff endK endR resA resL resV expP expA expC expN expL expBs expB idx thenQ blockQ wantK if_pos if_neg wrap_u32 zas beqI bneI w32 wl zar Int.natCast_inj
def bytesN (l : List Nat) : ByteArray := ⟨(l.map UInt8.ofNat).toArray⟩
theorem fold_bytes (l : List Nat) (s : ByteArray) : (l.map fun d : Nat => (d : Int)).foldl (fun r n => r.push (UInt8.ofNat n.toNat)) s = ⟨s.data ++ (l.map UInt8.ofNat).toArray⟩ := by
  induction l generalizing s with
  | nil => simp
  | cons a l ih =>
    simp only [List.map_cons, List.foldl_cons]
    rw [ih]
    simp [ByteArray.push]
theorem bytesK {P : Program} {o : Oper} {s : St} {K : Eff → Prop} {src dst e : TypeId} {x : Operand} {id : Id} {ver off n : Nat} {blk : Blk} {l : List Nat} (ho : o.op = .convert src dst x)
    (hs : P.underlying src = some (.slice e)) (he : P.underlying e = some (.int .u8)) (hd : P.underlying dst = some .string) (hx : pv s.frame x = .sl id ver off n 1) (hl : live s.store id ver = some blk)
    (hn : l.length = n) (hc : (blk.cells.drop off).take n = l.map fun d : Nat => PV.int .u8 (d : Int)) (h0 : n ≠ 0)
    (hK : K ⟨.str (bytesN l), [id], [], false⟩) : contK P o s none K := by
  refine ⟨_, ⟨fun s' h1 h2 _ => zhs fun c β a w hr => ?_⟩, hK⟩
  have hx' : pv s'.frame x = .sl id ver off n 1 := by rw [h1 x (by rw [ho]; simp [Op.operands])]; exact hx
  have hv := zbs (E := env c β s'.store w) hr.frame x
  rw [hx'] at hv
  have hl' : live s'.store id ver = some blk := by rw [zbf (h2 id (by simp))]; exact hl
  obtain ⟨hb, hver⟩ := zbh hl'
  have hsl := hv.sl_inv hb hver
  unfold SlAt at hsl
  cases hβ : β id with
  | none =>
    have : (env c β s'.store w).β id = none := hβ
    rw [this] at hsl
    exact absurd hsl.2 h0
  | some go =>
    obtain ⟨g, oo⟩ := go
    have hβ' : (env c β s'.store w).β id = some (g, oo) := hβ
    rw [hβ'] at hsl
    obtain ⟨cap, hval, _⟩ := hsl
    obtain ⟨_, cc, e', fz, hat⟩ := (hr.blocks id blk hb).at_ hβ'
    obtain ⟨us, a1, a2, a3⟩ := hat.At off
    have hlen : n ≤ (blk.cells.drop off).length := by
      have := congrArg List.length hc
      simp only [List.length_take, List.length_map, hn] at this
      omega
    have hcell : ∀ j, j < n → us j = .int .u8 ((l.getD j 0 : Nat) : Int) := fun j hj => by
      have hv := a2 j (by omega)
      have hg : (blk.cells.drop off).getD j .any = .int .u8 ((l.getD j 0 : Nat) : Int) := by
        have h3 := congrArg (fun z => z.getD j PV.any) hc
        simp only [zcn _ _ _ hj] at h3
        rw [h3]
        simp [List.getD, List.getElem?_map, List.getElem?_eq_getElem (show j < l.length by omega)]
      rw [hg] at hv
      exact hv.int_inv
    refine ⟨.string (bytesN l), ?_, .str _⟩
    have hload := run_loadCells (P := P) w ⟨g, oo + off, none⟩ n us (fun j hj => a1 j (by omega))
    have hlist : (List.range n).map us = (l.map fun d : Nat => (d : Int)).map (Value.int .u8) := by
      apply List.ext_getElem
      · simp [hn]
      · intro j h1 h2
        simp only [List.length_map, List.length_range] at h1
        simp only [List.getElem_map, List.getElem_range]
        rw [hcell j h1]
        simp [List.getD, List.getElem?_eq_getElem (show j < l.length by omega)]
    rw [hlist] at hload
    simp only [execOp, ho, hval, Sem.run_bind, run_convert_bytes_string (P := P) w src dst e _ _ _ hs he hd]
    rw [run_bytesToString w _ _ _ _ hload, fold_bytes]
    simp [Sem.run_pure, bytesN]
def digs (n : Nat) : Nat → List Nat
  | 0 => []
  | k + 1 => (48 + n / 10 ^ k % 10) :: digs n k
theorem zfb (n k : Nat) : (digs n k).length = k := by induction k with | zero => rfl | succ k ih => simp [digs, ih]
def nineC (n k : Nat) : List PV := List.replicate (9 - k) (.int .u8 0) ++ (digs n k).map fun d => .int .u8 (d : Nat)
theorem nineC_len (n k : Nat) (h : k ≤ 9) : (nineC n k).length = 9 := by simp [nineC, zfb]; omega
theorem digitsNine (n : Nat) (h : n < 1000000000) : CallOk Tryz.prog 181 [.int .u32 n] [] (.str (bytesN (digs n 9))) [] := by
  refine CallOk.of_wl Tryz.func181 rfl rfl rfl (Nat.le_of_ble_eq_true rfl) ?_
  (repeat (first | with_reducible (first | refine WL.seq ?_ | refine WL.skip ?_ | refine WL.label ?_ | refine WL.block ?_ | refine WL.scope ?_ | refine WL.nilS ?_ | refine WL.reS ?_ | refine WL.exS ?_ | refine WL.nilB ?_ | refine WL.nilT ?_ | refine WL.exit ?_ | refine WL.ret ?_ | refine WL.exT ?_ | refine WL.exB ?_ | refine WL.exN rfl ?_ | refine WL.reT ?_ | refine WL.reB ?_) | ((first | refine WL.reg rfl ?_ | refine WL.regT zai rfl ?_); (conv => { arg 3; simp [prep, prep1] }); (repeat (first | (refine zae ?_ ?_; (focus (simp; done)); (conv => { arg 4; simp (disch := omega)  }); (first | (first | refine zaa ?_ | (refine zac ?_; (conv => { arg 5; simp }))))) | (refine zab rfl ?_ ?_; (focus (simp; done))))); with_reducible refine zad ?_; (first | refine ⟨rfl, ?_⟩ | refine ⟨by simp [quietB], by simp [quietU], ?_⟩ | skip)) | (refine WL.cond ?_; (conv => { arg 1; simp (disch := omega)  }); with_reducible (first | refine zaj ?_ | refine zak ?_ | refine zag (by omega) ?_ | refine zah (by omega) ?_))))
  refine WL.loop (fun m s => ∃ k : Nat, m = 9 - k ∧ k ≤ 9 ∧ s.frame 0 = .int .u32 ((n / 10 ^ k : Nat) : Int) ∧ s.frame 3 = .pt ⟨3, 0, 0⟩ 0 0 ∧ s.frame 4 = .int .i64 (8 - (k : Int)) ∧ s.store ⟨3, 0, 0⟩ = some ⟨0, true, false, nineC n k⟩) 9 ?_ ?_
  · exact ⟨0, by omega, by omega, by simp, by simp, by simp, by simp [nineC, digs]⟩
  rintro m ⟨f, σ, g⟩ ⟨k, rfl, hk, h0, h3, h4, hs⟩
  simp only at h0 h3 h4 hs
  have hl := nineC_len n k hk
  (repeat (first | with_reducible (first | refine WL.seq ?_ | refine WL.skip ?_ | refine WL.label ?_ | refine WL.block ?_ | refine WL.scope ?_ | refine WL.nilS ?_ | refine WL.reS ?_ | refine WL.exS ?_ | refine WL.nilB ?_ | refine WL.nilT ?_ | refine WL.exit ?_ | refine WL.ret ?_ | refine WL.exT ?_ | refine WL.exB ?_ | refine WL.exN rfl ?_ | refine WL.reT ?_ | refine WL.reB ?_) | ((first | refine WL.reg rfl ?_ | refine WL.regT zai rfl ?_); (conv => { arg 3; simp [prep, prep1] }); (repeat (first | (refine zae ?_ ?_; (focus (simp; done)); (conv => { arg 4; simp (disch := omega) [h0, h3, h4, hs, hl] }); (first | (first | refine zaa ?_ | (refine zac ?_; (conv => { arg 5; simp }))))) | (refine zab rfl ?_ ?_; (focus (simp; done))))); with_reducible refine zad ?_; (first | refine ⟨rfl, ?_⟩ | refine ⟨by simp [quietB], by simp [quietU], ?_⟩ | skip)) | (refine WL.cond ?_; (conv => { arg 1; simp (disch := omega) [h0, h3, h4, hs, hl] }); with_reducible (first | refine zaj ?_ | refine zak ?_ | refine zag (by omega) ?_ | refine zah (by omega) ?_))))
  refine WL.cond ?_; (conv => { arg 1; simp (disch := omega)  }); (first | refine zop ?_ ?_ | refine zqk ?_ ?_)
  · intro hc
    generalize hx : n / 10 ^ k = x at h0
    have hx10 : n / 10 ^ (k + 1) = x / 10 := by rw [Nat.pow_succ, ← Nat.div_div_eq_div_mul, hx]
    have i1 : (8 - (k : Int)).toNat = 8 - k := by omega
    have i2 : (0 : Int) ≤ 8 - (k : Int) := by omega
    have i3 : 8 - (k : Int) < 9 := by omega
    (repeat (first | with_reducible (first | refine WL.seq ?_ | refine WL.skip ?_ | refine WL.label ?_ | refine WL.block ?_ | refine WL.scope ?_ | refine WL.nilS ?_ | refine WL.reS ?_ | refine WL.exS ?_ | refine WL.nilB ?_ | refine WL.nilT ?_ | refine WL.exit ?_ | refine WL.ret ?_ | refine WL.exT ?_ | refine WL.exB ?_ | refine WL.exN rfl ?_ | refine WL.reT ?_ | refine WL.reB ?_) | ((first | refine WL.reg rfl ?_ | refine WL.regT zai rfl ?_); (conv => { arg 3; simp [prep, prep1] }); (repeat (first | (refine zae ?_ ?_; (focus (simp; done)); (conv => { arg 4; simp (disch := omega) [h0, h3, h4, hs, hl, i1, i2, i3] }); (first | (first | refine zaa ?_ | (refine zac ?_; (conv => { arg 5; simp }))))) | (refine zab rfl ?_ ?_; (focus (simp; done))))); with_reducible refine zad ?_; (first | refine ⟨rfl, ?_⟩ | refine ⟨by simp [quietB], by simp [quietU], ?_⟩ | skip)) | (refine WL.cond ?_; (conv => { arg 1; simp (disch := omega) [h0, h3, h4, hs, hl, i1, i2, i3] }); with_reducible (first | refine zaj ?_ | refine zak ?_ | refine zag (by omega) ?_ | refine zah (by omega) ?_))))
    have hm : (48 + (x : Int) % 10) = ((48 + x % 10 : Nat) : Int) := by omega
    have hst : nineC n (k + 1) = (nineC n k).take (8 - k) ++ PV.int .u8 ((48 + x % 10 : Nat) : Int) :: (nineC n k).drop (8 - k + 1) := by
      have e1 : List.replicate (9 - k) (PV.int .u8 0) = List.replicate (8 - k) (PV.int .u8 0) ++ [PV.int .u8 0] := by
        rw [show 9 - k = (8 - k) + 1 by omega, List.replicate_succ']
      have e2 : (List.replicate (8 - k) (PV.int .u8 0)).length = 8 - k := by simp
      simp only [nineC, digs, show 9 - (k + 1) = 8 - k by omega, e1, List.append_assoc, List.map_cons, hx]
      rw [List.take_append_of_le_length (by omega), List.take_of_length_le (by omega), List.drop_append, List.drop_of_length_le (by omega), e2, show 8 - k + 1 - (8 - k) = 1 by omega]
      simp
    refine ⟨9 - (k + 1), by omega, k + 1, rfl, by omega, ?_, ?_, ?_, ?_⟩
    · have hxb : x ≤ n := by rw [← hx]; exact Nat.div_le_self _ _
      rw [hx10]
      simp
      omega
    · simp [h3]
    · simp; omega
    · have hw : IntKind.u8.wrap ((48 + ((x : Int)).tmod 10) % 4294967296) = ((48 + x % 10 : Nat) : Int) := by
        rw [Int.tmod_eq_emod_of_nonneg (by omega)]
        unfold IntKind.wrap
        simp [IntKind.bits, IntKind.signed]
        omega
      simp; rw [hst, hw]
  · intro hc
    have hk9 : k = 9 := by omega
    subst hk9
    (repeat (first | with_reducible (first | refine WL.seq ?_ | refine WL.skip ?_ | refine WL.label ?_ | refine WL.block ?_ | refine WL.scope ?_ | refine WL.nilS ?_ | refine WL.reS ?_ | refine WL.exS ?_ | refine WL.nilB ?_ | refine WL.nilT ?_ | refine WL.exit ?_ | refine WL.ret ?_ | refine WL.exT ?_ | refine WL.exB ?_ | refine WL.exN rfl ?_ | refine WL.reT ?_ | refine WL.reB ?_) | ((first | refine WL.reg rfl ?_ | refine WL.regT zai rfl ?_); (conv => { arg 3; simp [prep, prep1] }); (repeat (first | (refine zae ?_ ?_; (focus (simp; done)); (conv => { arg 4; simp (disch := omega) [h0, h3, h4, hs, hl] }); (first | (first | refine zaa ?_ | (refine zac ?_; (conv => { arg 5; simp }))))) | (refine zab rfl ?_ ?_; (focus (simp; done))))); with_reducible refine zad ?_; (first | refine ⟨rfl, ?_⟩ | refine ⟨by simp [quietB], by simp [quietU], ?_⟩ | skip)) | (refine WL.cond ?_; (conv => { arg 1; simp (disch := omega) [h0, h3, h4, hs, hl] }); with_reducible (first | refine zaj ?_ | refine zak ?_ | refine zag (by omega) ?_ | refine zah (by omega) ?_))))
    (first | refine WL.reg rfl ?_ | refine WL.regT zai rfl ?_); (conv => { arg 3; simp [prep, prep1] }); (repeat (first | (refine zae ?_ ?_; (focus (simp; done)); (conv => { arg 4; simp (disch := omega) [h0, h3, h4, hs, hl] }); (first | (first | refine zaa ?_ | (refine zac ?_; (conv => { arg 5; simp }))))) | (refine zab rfl ?_ ?_; (focus (simp; done)))))
    refine bytesK (l := digs n 9) rfl rfl rfl rfl (id := ⟨3, 0, 0⟩) (ver := 0) (off := 0) (n := 9) (blk := ⟨0, true, false, nineC n 9⟩) (by simp) (by simp [live, hs]) (zfb n 9) (by simp [nineC, zfb, List.take_of_length_le]) (by omega) ?_
    (conv => { arg 5; simp (disch := omega)  })
    (repeat (first | (refine zae ?_ ?_; (focus (simp; done)); (conv => { arg 4; simp (disch := omega)  }); (first | refine zaa ?_ | (refine zac ?_; (conv => { arg 5; simp })))) | (refine zab rfl ?_ ?_; (focus (simp; done)))))
    with_reducible refine zad ?_
    (repeat (first | with_reducible (first | refine WL.seq ?_ | refine WL.skip ?_ | refine WL.label ?_ | refine WL.block ?_ | refine WL.scope ?_ | refine WL.nilS ?_ | refine WL.reS ?_ | refine WL.exS ?_ | refine WL.nilB ?_ | refine WL.nilT ?_ | refine WL.exit ?_ | refine WL.ret ?_ | refine WL.exT ?_ | refine WL.exB ?_ | refine WL.exN rfl ?_ | refine WL.reT ?_ | refine WL.reB ?_) | ((first | refine WL.reg rfl ?_ | refine WL.regT zai rfl ?_); (conv => { arg 3; simp [prep, prep1] }); (repeat (first | (refine zae ?_ ?_; (focus (simp; done)); (conv => { arg 4; simp (disch := omega)  }); (first | (first | refine zaa ?_ | (refine zac ?_; (conv => { arg 5; simp }))))) | (refine zab rfl ?_ ?_; (focus (simp; done))))); with_reducible refine zad ?_; (first | refine ⟨rfl, ?_⟩ | refine ⟨by simp [quietB], by simp [quietU], ?_⟩ | skip)) | (refine WL.cond ?_; (conv => { arg 1; simp (disch := omega)  }); with_reducible (first | refine zaj ?_ | refine zak ?_ | refine zag (by omega) ?_ | refine zah (by omega) ?_))))
    refine ⟨[], ?_⟩
    simp (disch := omega) 
theorem zkb (id : Id) : stOf [] id = none := by simp [stOf]
theorem Keeps.of_below {B : Nat} {I : Nat → Prop} {w w' : World} (hB : B ≤ w.heap.size) (h : Below w.heap.size w w') : Keeps B I w w' :=
  ⟨h.os, h.tape, h.output, h.size, fun k hk _ => h.block k (by omega), fun g N hr => Room.of_heap hr (h.block g hr.lt)⟩
theorem CallOk.of_below {P : Program} {f : FuncId} {ps : List PV} {r : PV}
    (h : ∀ (c : Ctx) (β0 : Id → Option (Nat × Nat)) (args : Array Value), Entry c β0 ps [] args → ∃ v, (∀ E : Env, VR E r v) ∧ Calls P f args c.w0 fun e w' => e = .returned v ∧ Below c.w0.heap.size c.w0 w') : CallOk P f ps [] r [] := by
  intro c β0 args he
  obtain ⟨v, hv, hc⟩ := h c β0 args he
  refine hc.mono fun e w' ⟨h1, h2⟩ => ⟨v, β0, h1, Keeps.of_below (Nat.le_refl _) h2, hv _, ⟨fun id blk hb => ?_, fun id id' blk blk' g o o' hb => ?_⟩, fun id blk hb => ?_⟩
  · rw [show (env c β0 (stOf []) w').σ id = stOf [] id from rfl, zkb] at hb; cases hb
  · rw [show (env c β0 (stOf []) w').σ id = stOf [] id from rfl, zkb] at hb; cases hb
  · rw [zkb] at hb; cases hb
theorem args2 {args : Array Value} (h : args.size = 2) : args = #[args.getD 0 undef, args.getD 1 undef] := by
  apply Array.ext
  · simp [h]
  · intro i h1 h2
    simp at h2
    rcases i with _ | _ | i
    · simp [Array.getD, h]
    · simp [Array.getD, h]
    · omega
theorem zph (xs : List ByteArray) (sep : ByteArray) (hN : xs.length ≤ 140737488355328) (hlen : (Lib.join (xs.map (·.data.toList)) sep.data.toList).length ≤ 140737488355328) :
    CallOk Tryz.prog 89 [.rd (xs.map PV.str) xs.length, .str sep] [] (.str ⟨(Lib.join (xs.map (·.data.toList)) sep.data.toList).toArray⟩) [] := by
  refine CallOk.of_below fun cx β0 args he => ⟨.string ⟨(Lib.join (xs.map (·.data.toList)) sep.data.toList).toArray⟩, fun E => .str _, ?_⟩
  have h0 := he.vr 0 (by simp)
  have h1 := (he.vr 1 (by simp)).str_inv
  rw [args2 (args := args) he.size, h1]
  obtain ⟨A, c, hv, hc, hrest⟩ := VR.rd_inv h0
  rw [hv]
  rcases hrest with hnil | ⟨a, us, hA, hD, u1, u2, u3⟩
  · have : xs = [] := by simpa using hnil
    subst this
    exact (Tryz.strings_Join_none A c sep cx.w0).mono fun e w' ⟨a, b⟩ => ⟨a, by rw [b]; exact Below.refl _ _⟩
  · by_cases hx : xs = []
    · subst hx
      exact (Tryz.strings_Join_none A c sep cx.w0).mono fun e w' ⟨a, b⟩ => ⟨a, by rw [b]; exact Below.refl _ _⟩
    subst hA
    have hpos : 0 < xs.length := List.length_pos_iff.2 hx
    have c0 := u1 0 (by simpa using hpos)
    obtain ⟨bk, o, sp⟩ := a
    have hsp : sp = none := by
      cases sp with
      | none => rfl
      | some q =>
        simp [Addr.add, World.cell?] at c0
        split at c0 <;> simp at c0
    subst hsp
    refine (Tryz.strings_Join bk o c xs sep cx.w0 (fun j x hj => ?_) hD.1 hN hc hlen).mono fun e w' ⟨a, b⟩ => ⟨a, b⟩
    have hj' : j < xs.length := (List.getElem?_eq_some_iff.1 hj).1
    have k1 := u1 j (by simpa using hj')
    have k2 := u2 j (by simpa using hj')
    have k3 : (xs.map PV.str).getD j .any = .str x := by simp [List.getD, hj]
    rw [show [PV.rd (xs.map PV.str) xs.length, PV.str sep].getD 0 .any = PV.rd (xs.map PV.str) xs.length from rfl] at *
    rw [k3] at k2
    rw [add_lit] at k1
    rw [show cx.w0.cell? ⟨bk, o + j, none⟩ = some (us j) from k1, k2.str_inv]
end Go.Proofs.YthgldcflcmlgpaaGreatDoorE
end
section
/- From the engine's states down to the kit's walk, and back. -/
set_option linter.unusedVariables false
set_option linter.unusedSimpArgs false
namespace Go.Proofs.YthgldcflcmlgpaaGreatDoorE
open Go.RowKit
theorem WL.low {P : Program} {nt : Nat} {Q : Exit → St → Prop} {s : St} {c : Code} (h : ∀ (cx : Ctx) (a : Act) (w : World), cx.nt = nt → Rel cx s a w → c.wp P (fun e a' w' => ∃ s', thenQ (WL P nt [] Q) Q e s' ∧ Rel cx s' a' w') a w) : WL P nt [c] Q s := h
theorem strs_at {cx : Ctx} {β : Id → Option (Nat × Nat)} {s : St} {a : Act} {w : World} (h : RelB cx β s a w) {t : Nat} {id : Id} {v n : Nat} {o fl : Bool} {l : List ByteArray} (h3 : s.frame t = .sl id v 0 n 1)
    (hs : s.store id = some ⟨v, o, fl, l.map PV.str⟩) (hn : l.length = n) (h0 : n ≠ 0) :
    ∃ g off cap, a.tmps.getD t undef = .slice (some ⟨g, off, none⟩) n cap ∧ n ≤ cap ∧ g < w.heap.size ∧ ∀ (j : Nat) x, l[j]? = some x → w.cell? ⟨g, off + j, none⟩ = some (.string x) := by
  have hv := h.frame t
  rw [h3] at hv
  have hsl := hv.sl_inv (blk := ⟨v, o, fl, l.map PV.str⟩) hs rfl
  unfold SlAt at hsl
  cases hβ : β id with
  | none =>
    have : (env cx β s.store w).β id = none := hβ
    rw [this] at hsl
    exact absurd hsl.2 h0
  | some go =>
    obtain ⟨g, oo⟩ := go
    have hβ' : (env cx β s.store w).β id = some (g, oo) := hβ
    rw [hβ'] at hsl
    obtain ⟨cap, hval, hc, _, _⟩ := hsl
    obtain ⟨_, cc, e', fz, hat⟩ := (h.blocks id _ hs).at_ hβ'
    obtain ⟨us, a1, a2, a3⟩ := hat.At 0
    refine ⟨g, oo, cap, by simpa using hval, hc, (h.blocks id _ hs).lt hβ', fun j x hj => ?_⟩
    have hj' : j < l.length := (List.getElem?_eq_some_iff.1 hj).1
    have k1 := a1 j (by simpa using hj')
    have k2 := a2 j (by simpa using hj')
    have k3 : ((l.map PV.str).drop 0).getD j .any = .str x := by simp [List.getD, hj]
    rw [k3] at k2
    rw [add_lit, Nat.add_zero] at k1
    rw [show w.cell? ⟨g, oo + j, none⟩ = some (us j) from k1, k2.str_inv]
theorem Env.Le.of_below {cx : Ctx} {β : Id → Option (Nat × Nat)} {σ : Id → Option Blk} {w w' : World} (h : Below w.heap.size w w') : (env cx β σ w).Le (env cx β σ w') :=
  ⟨fun g ⟨h1, h2, h3⟩ => ⟨Nat.lt_of_lt_of_le h1 h.size, h2, h3⟩, fun g hg => h.block g hg.1, fun g N hr => Room.of_heap hr (h.block g hr.lt), fun id blk hb => ⟨blk, hb, Nat.le_refl _, fun _ => rfl⟩⟩
theorem Rel.after {cx : Ctx} {β : Id → Option (Nat × Nat)} {s : St} {a : Act} {w w' : World} (h : RelB cx β s a w) (hb : Below w.heap.size w w') (tm : Array Value) (hsz : tm.size = cx.nt) (t : Nat) (x : ByteArray) (ht : tm.getD t undef = .string x) :
    Rel cx ⟨fun u => if u = t then .str x else .any, s.store, s.gens⟩ ⟨tm, []⟩ w' := by
  have L := Env.Le.of_below (cx := cx) (β := β) (σ := s.store) hb
  refine ⟨β, h.keeps.trans (Keeps.of_below h.keeps.size hb), hsz, rfl, fun u => ?_, fun id blk hbk => ?_, h.inj, h.gens, h.io⟩
  · by_cases hu : u = t
    · subst hu
      simp only [if_pos]
      show VR _ _ (tm.getD u undef)
      rw [ht]; exact .str _
    · simp only [if_neg hu]; exact .any _
  · exact (h.blocks id blk hbk).mono L rfl fun g o hg => hb.block g ((h.blocks id blk hbk).lt hg)
theorem tmps_lit (tm : Array Value) (n : Nat) (h : tm.size = n) : tm = ((List.range n).map fun j => tm.getD j undef).toArray := by
  apply Array.ext
  · simp [h]
  · intro i h1 h2
    simp [Array.getD, h1]
open Go.Shelf in
theorem bWrite (B b : Nat) (bs : List Value) (s : ByteArray) (w : World) (h : Lib.IsBuilder 164 5 B b bs w) (hlen : bs.length + s.size ≤ 140737488355328) (hBw : B ≤ w.heap.size) :
    Calls Tryz.prog 143 #[.pointer (some ⟨b, 0, none⟩), .string s] w fun e w' => e = .returned (.tuple #[.int .i64 s.size, .nilIface]) ∧ (Lib.BuilderAt 164 5 B b (.pointer (some ⟨b, 0, none⟩)) (bs ++ Lib.strCells s) w' ∧ Below B w w') :=
  Any.Builder_WriteString { Tryz.lays156 with } Tryz.Builder_Extra_156 B b bs s w h hlen hBw
end Go.Proofs.YthgldcflcmlgpaaGreatDoorE
end
section
/- digits.Text: the pieces. -/
set_option linter.unusedVariables false
set_option linter.unusedSimpArgs false
namespace Go.Proofs.YthgldcflcmlgpaaGreatDoorE
open Go.RowKit
set_option maxRecDepth 100000
attribute [local simp] List.getElem?_cons_zero List.getElem?_cons_succ List.getElem?_nil wrap_i64 stOf st0 effF effC evalV evalL zfd zcr pv_t pv_c pv_g pv_f ofConst binV binI lenV foldV mx2 mn2 unV convV extractV idxV indexV fieldAddrV fieldV partV sliceV boundsV loadL live storeE appendE srcV litE makeE IntKind.bits copyE boxE allocE flatParts flatCs flatC allParts cellsOf solid leafB fillL frzL buildV fillP placeS eqFl eqCell St.eff St.put wrs callE renP renA renC renI nid newL renB noEff endK endR resA resL resV expP expA expC expN expL expBs expB idx thenQ blockQ wantK if_pos if_neg wrap_u32 zas beqI bneI w32 wl zar Int.natCast_inj
theorem digs_mod (n k : Nat) : ∀ j, j ≤ k → digs (n % 10 ^ k) j = digs n j := by
  intro j
  induction j with
  | zero => intro _; rfl
  | succ j ih =>
    intro h
    simp only [digs]
    rw [ih (by omega)]
    congr 2
    rw [show 10 ^ k = 10 ^ j * 10 ^ (k - j) by rw [← Nat.pow_add]; congr 1; omega, Nat.mod_mul_right_div_self]
    obtain ⟨m, hm⟩ : ∃ m, k - j = m + 1 := ⟨k - j - 1, by omega⟩
    rw [hm, Nat.pow_succ, Nat.mod_mul_left_mod]
theorem digs_add (n k : Nat) : ∀ j, digs n (k + j) = digs (n / 10 ^ k) j ++ digs n k := by
  intro j
  induction j with
  | zero => simp [digs]
  | succ j ih =>
    show digs n (k + j + 1) = _
    simp only [digs, ih, List.cons_append]
    rw [Nat.div_div_eq_div_mul, ← Nat.pow_add]
def pieceB (n j : Nat) : ByteArray := bytesN (digs (n / 10 ^ (9 * j)) 9)
def pieces (n i : Nat) : List ByteArray := (List.range i).map (pieceB n)
theorem zje (n i : Nat) : (pieces n i).length = i := by simp [pieces]
theorem pieces_succ (n i : Nat) : pieces n (i + 1) = pieces n i ++ [pieceB n i] := by simp [pieces, List.range_succ]
theorem zkl (l : List Nat) (hw : wf l) (hl : l.length ≤ 1099511627776) : CallOk Tryz.prog 119 [wl l] [] (.bool (decide (val l = 0))) [] := by
  have h := zmq l hl
  have e : decide (trimL l = []) = decide (val l = 0) := by
    rw [zba hw]
    by_cases h0 : val l = 0
    · rw [h0]; simp [zaw]
    · have : nw (val l) ≠ [] := by rw [zde h0]; simp
      simp [this, h0]
  rw [e] at h; exact h
def bd (l : List Nat) : List UInt8 := l.map UInt8.ofNat
theorem zfs (n j : Nat) : (pieceB n j).data.toList = bd (digs (n / 10 ^ (9 * j)) 9) := by simp [pieceB, bytesN, bd]
theorem pieceB_size (n j : Nat) : (pieceB n j).size = 9 := by
  show (pieceB n j).data.size = 9
  rw [← Array.length_toList, zfs, bd, List.length_map, zfb]
def heldD (n i k : Nat) : List UInt8 := bd (digs (n / 10 ^ (9 * k)) (9 * (i - k)))
theorem heldD_len (n i k : Nat) : (heldD n i k).length = 9 * (i - k) := by simp [heldD, bd, zfb]
theorem heldD_step (n i k : Nat) (h : k + 1 ≤ i) : heldD n i k = heldD n i (k + 1) ++ (pieceB n k).data.toList := by
  rw [zfs, heldD, heldD, show 9 * (i - k) = 9 + 9 * (i - (k + 1)) by omega, digs_add, bd, bd, bd, List.map_append, Nat.div_div_eq_div_mul, ← Nat.pow_add, show 9 * k + 9 = 9 * (k + 1) by omega]
def decB (n : Nat) : ByteArray := ⟨(Lib.trimLeftB (bd (digs n n)) 48).toArray⟩
theorem zij (n : Nat) {k : Nat} (h : n < 10 ^ k) : ∀ j, Lib.trimLeftB (bd (digs n (k + j))) 48 = Lib.trimLeftB (bd (digs n k)) 48
  | 0 => rfl
  | j + 1 => by
    rw [← zij n h j]
    have hz : n / 10 ^ (k + j) = 0 := Nat.div_eq_of_lt (Nat.lt_of_lt_of_le h (Nat.pow_le_pow_right (by decide) (by omega)))
    show Lib.trimLeftB (bd (digs n (k + j + 1))) 48 = _
    simp [digs, hz, bd, Lib.trimLeftB]
theorem lt_ten_pow (n : Nat) : n < 10 ^ n := by
  induction n with
  | zero => decide
  | succ n ih => rw [Nat.pow_succ]; omega
theorem zrh (n : Nat) {k : Nat} (h : n < 10 ^ k) : (⟨(Lib.trimLeftB (bd (digs n k)) 48).toArray⟩ : ByteArray) = decB n := by
  unfold decB
  have h1 := zij n h n
  have h2 := zij n (lt_ten_pow n) k
  rw [Nat.add_comm] at h2
  rw [← h1, h2]
theorem digitsTextN (a : List Nat) (hw : wf a) (hl : a.length ≤ 1000000) (hne : val a ≠ 0) : CallOk Tryz.prog 141 [wl a] [] (.str (decB (val a))) [] := by
  have z1 := zkl a hw (by omega)
  rw [decide_eq_false hne] at z1
  refine CallOk.of_wl Tryz.func141 rfl rfl rfl (Nat.le_of_ble_eq_true rfl) ?_
  (repeat (first | with_reducible (first | refine WL.seq ?_ | refine WL.skip ?_ | refine WL.label ?_ | refine WL.block ?_ | refine WL.scope ?_ | refine WL.nilS ?_ | refine WL.reS ?_ | refine WL.exS ?_ | refine WL.nilB ?_ | refine WL.nilT ?_ | refine WL.exit ?_ | refine WL.ret ?_ | refine WL.exT ?_ | refine WL.exB ?_ | refine WL.exN rfl ?_ | refine WL.reT ?_ | refine WL.reB ?_) | ((first | refine WL.reg rfl ?_ | refine WL.regT zai rfl ?_); (conv => { arg 3; simp [prep, prep1] }); (repeat (first | (refine zae ?_ ?_; (focus (simp; done)); (conv => { arg 4; simp (disch := omega)  }); (first | (first | refine zaa ?_ | (refine zac ?_; (conv => { arg 5; simp }))) | (refine zal true rfl rfl ⟨_, Tryz.func119, rfl, rfl⟩ ?_; (conv => { arg 6; simp (disch := omega)  }); refine zaf (z1) rfl ?_; (conv => { arg 5; simp (disch := omega)  })))) | (refine zab rfl ?_ ?_; (focus (simp; done))))); with_reducible refine zad ?_; (first | refine ⟨rfl, ?_⟩ | refine ⟨by simp [quietB], by simp [quietU], ?_⟩ | skip)) | (refine WL.cond ?_; (conv => { arg 1; simp (disch := omega)  }); with_reducible (first | refine zaj ?_ | refine zak ?_ | refine zag (by omega) ?_ | refine zah (by omega) ?_))))
  refine WL.loop (fun m s => ∃ (i : Nat) (b : List Nat), m = val b ∧ wf b ∧ b.length ≤ a.length ∧ val b = val a / 10 ^ (9 * i) ∧ i ≤ 2000000 ∧ s.frame 0 = wl b ∧
    ((i = 0 ∧ s.frame 3 = .nilS) ∨ ∃ G v, s.frame 3 = .sl ⟨24, G, 0⟩ v 0 i 1 ∧ s.store ⟨24, G, 0⟩ = some ⟨v, true, true, (pieces (val a) i).map PV.str⟩)) (val a) ?_ ?_
  · exact ⟨0, a, rfl, hw, Nat.le_refl _, by simp, by omega, by simp [wl], .inl ⟨rfl, by simp⟩⟩
  rintro m ⟨f, σ, g⟩ ⟨i, b, rfl, hb, hlb, hvb, hi, h0, h3⟩
  simp only at h0 h3
  have z2 := zkl b hb (by omega)
  by_cases hb0 : val b = 0
  · rw [decide_eq_true hb0] at z2
    rcases h3 with ⟨hi0, h3⟩ | ⟨G, v, h3, hst⟩
    · subst hi0
      simp at hvb
      omega
    refine WL.seq ?_
    refine WL.seq ?_
    (first | refine WL.reg rfl ?_ | refine WL.regT zai rfl ?_); (conv => { arg 3; simp [prep, prep1] }); (repeat (first | (refine zae ?_ ?_; (focus (simp; done)); (conv => { arg 4; simp (disch := omega) [h0, h3, hst] }); (first | (first | refine zaa ?_ | (refine zac ?_; (conv => { arg 5; simp }))) | (refine zal true rfl rfl ⟨_, Tryz.func119, rfl, rfl⟩ ?_; (conv => { arg 6; simp (disch := omega) [h0, h3, hst] }); refine zaf (z2) rfl ?_; (conv => { arg 5; simp (disch := omega) [h0, h3, hst] })))) | (refine zab rfl ?_ ?_; (focus (simp; done))))); with_reducible refine zad ?_; (first | refine ⟨rfl, ?_⟩ | refine ⟨by simp [quietB], by simp [quietU], ?_⟩ | skip)
    (repeat (first | (refine WL.cond ?_; (conv => { arg 1; simp }); (first | with_reducible refine zaj ?_ | with_reducible refine zak ?_)) | with_reducible refine WL.exit ?_ | with_reducible refine WL.exT ?_ | with_reducible refine WL.exB ?_ | with_reducible refine WL.exN rfl ?_))
    refine WL.low fun cx act w hnt hR => ?_
    obtain ⟨β, hR⟩ := hR
    have hsz := hR.nt
    have hdf := hR.defers
    rw [hnt] at hsz
    have hi0 : i ≠ 0 := fun e => by
      subst e
      rw [hb0] at hvb
      simp at hvb
      omega
    obtain ⟨gb, off, cap, hv3, hcap, hgb, hcell⟩ := strs_at (l := pieces (val a) i) hR (t := 3) (by simp [h3]) hst (zje _ _) hi0
    have hcell' : ∀ j, j < i → w.cell? ⟨gb, off + j, none⟩ = some (.string (pieceB (val a) j)) := fun j hj => hcell j _ (by simp [pieces, hj])
    clear hcell
    generalize hn : val a = n at *
    obtain ⟨tm, df⟩ := act
    simp only at hsz hdf hv3
    subst hdf
    have hsz40 : tm.size = 40 := hsz
    have hlit := tmps_lit tm 40 hsz40
    simp only [List.range, List.range.loop, List.map, hv3] at hlit
    have hfresh : Lib.IsBuilder 164 5 w.heap.size w.heap.size (Lib.byteCells (heldD n i i)) (w.alloc (.cells #[.pointer none, .slice none 0 0] 164)) := by
      have : heldD n i i = [] := by simp [heldD, bd, digs]
      rw [this]; exact Lib.fresh_isBuilder 164 5 w
    have hbel0 : Below w.heap.size w (w.alloc (.cells #[.pointer none, .slice none 0 0] 164)) := (Below.refl _ w).alloc (Nat.le_refl _) _
    have hafter := fun (w' : World) (hb : Below w.heap.size w w') (tm' : Array Value) (h40 : tm'.size = cx.nt) (t : Nat) (x : ByteArray) (ht : tm'.getD t undef = .string x) => Rel.after hR hb tm' h40 t x ht
    have HA := Any.hidJ hafter
    clear hafter hR
    rw [hlit]
    clear hlit hv3 hsz hsz40
    generalize tm.getD 0 undef = x0
    generalize tm.getD 1 undef = x1
    generalize tm.getD 2 undef = x2
    generalize tm.getD 4 undef = x4
    generalize tm.getD 5 undef = x5
    generalize tm.getD 6 undef = x6
    generalize tm.getD 7 undef = x7
    generalize tm.getD 8 undef = x8
    generalize tm.getD 9 undef = x9
    generalize tm.getD 10 undef = x10
    generalize tm.getD 11 undef = x11
    generalize tm.getD 12 undef = x12
    generalize tm.getD 13 undef = x13
    generalize tm.getD 14 undef = x14
    generalize tm.getD 15 undef = x15
    generalize tm.getD 16 undef = x16
    generalize tm.getD 17 undef = x17
    generalize tm.getD 18 undef = x18
    generalize tm.getD 19 undef = x19
    generalize tm.getD 20 undef = x20
    generalize tm.getD 21 undef = x21
    generalize tm.getD 22 undef = x22
    generalize tm.getD 23 undef = x23
    generalize tm.getD 24 undef = x24
    generalize tm.getD 25 undef = x25
    generalize tm.getD 26 undef = x26
    generalize tm.getD 27 undef = x27
    generalize tm.getD 28 undef = x28
    generalize tm.getD 29 undef = x29
    generalize tm.getD 30 undef = x30
    generalize tm.getD 31 undef = x31
    generalize tm.getD 32 undef = x32
    generalize tm.getD 33 undef = x33
    generalize tm.getD 34 undef = x34
    generalize tm.getD 35 undef = x35
    generalize tm.getD 36 undef = x36
    generalize tm.getD 37 undef = x37
    generalize tm.getD 38 undef = x38
    generalize tm.getD 39 undef = x39
    have hz9 := hb0
    clear h3 hst h0 z1 z2 hw hl hb hlb hb0 hcap
    have Hc := Any.hidJ hcell'
    have Hf := Any.hidJ hfresh
    have H0 := Any.hidJ hbel0
    clear hcell' hfresh hbel0
    go_wp2_with fail
    go_loopw [8] (fun t wr => ∃ k : Nat, k ≤ i ∧ t = .int .i64 ((k : Int) - 1) ∧ Hid (Lib.IsBuilder 164 5 w.heap.size w.heap.size (Lib.byteCells (heldD n i k)) wr) ∧ Hid (Below w.heap.size w wr)) (fun t _ => (intOf t + 1).toNat)
    case atStart => exact ⟨i, Nat.le_refl _, rfl, Hf, H0⟩
    case round =>
      obtain ⟨k, hk, rfl, HB, HW⟩ := hrel
      have hBw : w.heap.size ≤ wr.heap.size := HW.out.size
      by_cases hk0 : k = 0
      · subst hk0
        go_wp2_with fail
        refine (Tryz.Builder_String_any w.heap.size w.heap.size _ wr HB.out hBw).mono ?_
        rintro e w5 ⟨rfl, hb5⟩
        have Hb5 := Any.hidJ (HW.out.trans hb5)
        clear hb5
        go_wp2_with fail
        refine (Tryz.strings_TrimLeft_one ⟨(heldD n i 0).toArray⟩ 48 (by decide) w5).mono ?_
        rintro e w6 ⟨rfl, hw6⟩
        subst hw6
        go_wp2
        have hres : (⟨(Lib.trimLeftB (heldD n i 0) 48).toArray⟩ : ByteArray) = decB n := by
          have h0 : heldD n i 0 = bd (digs n (9 * i)) := by simp [heldD]
          rw [h0]
          refine zrh n ?_
          rw [hz9] at hvb
          exact (Nat.div_eq_zero_iff_lt (Nat.pow_pos (by decide))).1 hvb.symm
        rw [hres]
        refine ⟨⟨fun u => if u = 2 then .str (decB n) else .any, σ, g⟩, ?_, HA.out _ Hb5.out _ (by rw [hnt]; rfl) 2 _ (by rfl)⟩
        simp only [thenQ]
        refine ⟨[], ?_⟩
        simp (disch := omega) 
      · obtain ⟨k, rfl⟩ : ∃ k', k = k' + 1 := ⟨k - 1, by omega⟩
        have hck : wr.cell? ⟨gb, off + k, none⟩ = some (.string (pieceB n k)) := by
          rw [HW.out.cell (p := ⟨gb, off + k, none⟩) hgb]; exact Hc.out k (by omega)
        have hkc : (((k + 1 : Nat) : Int) - 1) = (k : Int) := by omega
        rw [hkc]
        have hstep := heldD_step n i k hk
        have hlenD := heldD_len n i (k + 1)
        go_wp2_with fail
        refine (bWrite w.heap.size w.heap.size _ (pieceB n k) wr HB.out (by rw [Lib.byteCells_length, hlenD, pieceB_size]; omega) hBw).mono ?_
        rintro e w2 ⟨rfl, h2, hb2⟩
        rw [Lib.strCells_eq, ← Lib.byteCells_append, ← hstep] at h2
        have H2 := Any.hidJ (Or.inr h2 : Lib.IsBuilder 164 5 w.heap.size w.heap.size _ w2)
        have Hb2 := Any.hidJ (HW.out.trans hb2)
        clear h2 hb2 hstep hlenD
        go_wp2
        exact ⟨⟨k, by omega, by go_num, H2, Hb2⟩, by simp [intOf]⟩
  · rw [decide_eq_false hb0] at z2
    have hq := znr b 1000000000 hb (by omega) (by omega) (by omega)
    have hlen9 : i < 2000000 := by
      refine Nat.lt_of_not_le fun hge => hb0 ?_
      rw [hvb]
      refine Nat.div_eq_of_lt (Nat.lt_of_lt_of_le (zax hw) ?_)
      calc 4294967296 ^ a.length ≤ (10 ^ 10) ^ a.length := Nat.pow_le_pow_left (by decide) _
        _ = 10 ^ (10 * a.length) := by rw [← Nat.pow_mul]
        _ ≤ 10 ^ (9 * i) := Nat.pow_le_pow_right (by decide) (by omega)
    have hd9 := digitsNine (val b % 1000000000) (by omega)
    have hwb : wf (nw (val b / 1000000000)) := zaq _
    have hnw : (nw (val b / 1000000000)).length ≤ a.length := Nat.le_trans (zat (Nat.div_le_self _ _)) (Nat.le_trans (zao hb) hlb)
    have hpc : bytesN (digs (val b % 1000000000) 9) = pieceB (val a) i := by
      rw [show 1000000000 = 10 ^ 9 by decide, digs_mod _ _ _ (by omega), hvb]; rfl
    rw [hpc] at hd9
    have hvn : val (nw (val b / 1000000000)) = val a / 10 ^ (9 * (i + 1)) := by
      rw [zam, hvb, Nat.div_div_eq_div_mul, show 9 * (i + 1) = 9 * i + 9 by omega, Nat.pow_add]
    have hlt : val (nw (val b / 1000000000)) < val b := by
      rw [zam]; exact Nat.div_lt_self (by omega) (by omega)
    generalize nw (val b / 1000000000) = bb at *
    generalize val b % 1000000000 = r at *
    rcases h3 with ⟨hi0, h3⟩ | ⟨G, v, h3, hst⟩
    · subst hi0
      (repeat (first | with_reducible (first | refine WL.seq ?_ | refine WL.skip ?_ | refine WL.label ?_ | refine WL.block ?_ | refine WL.scope ?_ | refine WL.nilS ?_ | refine WL.reS ?_ | refine WL.exS ?_ | refine WL.nilB ?_ | refine WL.nilT ?_ | refine WL.exit ?_ | refine WL.ret ?_ | refine WL.exT ?_ | refine WL.exB ?_ | refine WL.exN rfl ?_ | refine WL.reT ?_ | refine WL.reB ?_) | ((first | refine WL.reg rfl ?_ | refine WL.regT zai rfl ?_); (conv => { arg 3; simp [prep, prep1] }); (repeat (first | (refine zae ?_ ?_; (focus (simp; done)); (conv => { arg 4; simp (disch := omega) [h0, h3] }); (first | (first | refine zaa ?_ | (refine zac ?_; (conv => { arg 5; simp }))) | ((first | refine zal true rfl rfl ⟨_, Tryz.func119, rfl, rfl⟩ ?_ | refine zal true rfl rfl ⟨_, Tryz.func180, rfl, rfl⟩ ?_ | refine zal true rfl rfl ⟨_, Tryz.func181, rfl, rfl⟩ ?_); (conv => { arg 6; simp (disch := omega) [h0, h3] }); (first | refine zaf (z2) rfl ?_ | refine zaf (hq) rfl ?_ | refine zaf (hd9) rfl ?_); (conv => { arg 5; simp (disch := omega) [h0, h3] })))) | (refine zab rfl ?_ ?_; (focus (simp; done))))); with_reducible refine zad ?_; (first | refine ⟨rfl, ?_⟩ | refine ⟨by simp [quietB], by simp [quietU], ?_⟩ | skip)) | (refine WL.cond ?_; (conv => { arg 1; simp (disch := omega) [h0, h3] }); with_reducible (first | refine zaj ?_ | refine zak ?_ | refine zag (by omega) ?_ | refine zah (by omega) ?_))))
      exact ⟨val bb, hlt, 1, bb, rfl, hwb, hnw, hvn, by omega, by simp [wl], .inr ⟨g 24, 0, by simp, by simp [pieces, List.range_succ]⟩⟩
    · have hsucc : (pieces (val a) (i + 1)).map PV.str = (pieces (val a) i).map PV.str ++ [PV.str (pieceB (val a) i)] := by rw [pieces_succ]; simp
      have hL : ((pieces (val a) i).map PV.str).length = i := by simp [zje]
      generalize (pieces (val a) i).map PV.str = L at *
      have hLt : L.take i = L := List.take_of_length_le (by omega)
      (repeat (first | with_reducible (first | refine WL.seq ?_ | refine WL.skip ?_ | refine WL.label ?_ | refine WL.block ?_ | refine WL.scope ?_ | refine WL.nilS ?_ | refine WL.reS ?_ | refine WL.exS ?_ | refine WL.nilB ?_ | refine WL.nilT ?_ | refine WL.exit ?_ | refine WL.ret ?_ | refine WL.exT ?_ | refine WL.exB ?_ | refine WL.exN rfl ?_ | refine WL.reT ?_ | refine WL.reB ?_) | ((first | refine WL.reg rfl ?_ | refine WL.regT zai rfl ?_); (conv => { arg 3; simp [prep, prep1] }); (repeat (first | (refine zae ?_ ?_; (focus (simp; done)); (conv => { arg 4; simp (disch := omega) [h0, h3, hst, hL, hLt] }); (first | (first | refine zaa ?_ | (refine zac ?_; (conv => { arg 5; simp }))) | ((first | refine zal true rfl rfl ⟨_, Tryz.func119, rfl, rfl⟩ ?_ | refine zal true rfl rfl ⟨_, Tryz.func180, rfl, rfl⟩ ?_ | refine zal true rfl rfl ⟨_, Tryz.func181, rfl, rfl⟩ ?_); (conv => { arg 6; simp (disch := omega) [h0, h3, hst, hL, hLt] }); (first | refine zaf (z2) rfl ?_ | refine zaf (hq) rfl ?_ | refine zaf (hd9) rfl ?_); (conv => { arg 5; simp (disch := omega) [h0, h3, hst, hL, hLt] })))) | (refine zab rfl ?_ ?_; (focus (simp; done))))); with_reducible refine zad ?_; (first | refine ⟨rfl, ?_⟩ | refine ⟨by simp [quietB], by simp [quietU], ?_⟩ | skip)) | (refine WL.cond ?_; (conv => { arg 1; simp (disch := omega) [h0, h3, hst, hL, hLt] }); with_reducible (first | refine zaj ?_ | refine zak ?_ | refine zag (by omega) ?_ | refine zah (by omega) ?_))))
      exact ⟨val bb, hlt, i + 1, bb, rfl, hwb, hnw, hvn, by omega, by simp [wl], .inr ⟨G, v + 1, by simp, by simp [hsucc]⟩⟩
def decS (n : Nat) : ByteArray := if n = 0 then ⟨#[48]⟩ else decB n
theorem zjm (a : List Nat) (hw : wf a) (hl : a.length ≤ 1000000) : CallOk Tryz.prog 141 [wl a] [] (.str (decS (val a))) [] := by
  by_cases h : val a = 0
  · have z1 := zkl a hw (by omega)
    rw [decide_eq_true h] at z1
    rw [show decS (val a) = ⟨#[48]⟩ by simp [decS, h]]
    refine CallOk.of_wl Tryz.func141 rfl rfl rfl (Nat.le_of_ble_eq_true rfl) ?_
    (repeat (first | with_reducible (first | refine WL.seq ?_ | refine WL.skip ?_ | refine WL.label ?_ | refine WL.block ?_ | refine WL.scope ?_ | refine WL.nilS ?_ | refine WL.reS ?_ | refine WL.exS ?_ | refine WL.nilB ?_ | refine WL.nilT ?_ | refine WL.exit ?_ | refine WL.ret ?_ | refine WL.exT ?_ | refine WL.exB ?_ | refine WL.exN rfl ?_ | refine WL.reT ?_ | refine WL.reB ?_) | ((first | refine WL.reg rfl ?_ | refine WL.regT zai rfl ?_); (conv => { arg 3; simp [prep, prep1] }); (repeat (first | (refine zae ?_ ?_; (focus (simp; done)); (conv => { arg 4; simp (disch := omega)  }); (first | (first | refine zaa ?_ | (refine zac ?_; (conv => { arg 5; simp }))) | (refine zal true rfl rfl ⟨_, Tryz.func119, rfl, rfl⟩ ?_; (conv => { arg 6; simp (disch := omega)  }); refine zaf (z1) rfl ?_; (conv => { arg 5; simp (disch := omega)  })))) | (refine zab rfl ?_ ?_; (focus (simp; done))))); with_reducible refine zad ?_; (first | refine ⟨rfl, ?_⟩ | refine ⟨by simp [quietB], by simp [quietU], ?_⟩ | skip)) | (refine WL.cond ?_; (conv => { arg 1; simp (disch := omega)  }); with_reducible (first | refine zaj ?_ | refine zak ?_ | refine zag (by omega) ?_ | refine zah (by omega) ?_))))
    refine ⟨[], ?_⟩
    simp (disch := omega) 
  · rw [show decS (val a) = decB (val a) by simp [decS, h]]
    exact digitsTextN a hw hl h
theorem decB_size (n : Nat) {k : Nat} (h : n < 10 ^ k) : (decB n).size ≤ k := by
  rw [← zrh n h]
  show (Lib.trimLeftB (bd (digs n k)) 48).toArray.size ≤ k
  rw [List.size_toArray]
  refine Nat.le_trans (List.dropWhile_sublist _).length_le ?_
  simp [bd, zfb]
theorem zga {n k : Nat} (h : n < 4294967296 ^ k) : (decS n).size ≤ 10 * k + 1 := by
  unfold decS
  split
  · show 1 ≤ 10 * k + 1
    omega
  · refine Nat.le_trans (decB_size n (k := 10 * k) (Nat.lt_of_lt_of_le h ?_)) (by omega)
    rw [Nat.pow_mul]
    exact Nat.pow_le_pow_left (by decide) _
def decI (z : Int) : ByteArray := if z < 0 then ⟨#[45]⟩ ++ decS z.natAbs else decS z.natAbs
theorem zmb {z : Int} {k : Nat} (h : z.natAbs < 4294967296 ^ k) : (decI z).size ≤ 10 * k + 2 := by
  unfold decI
  have h1 := zga h
  split
  · rw [ByteArray.size_append]
    have : (⟨#[45]⟩ : ByteArray).size = 1 := rfl
    omega
  · omega
def figS (q : Rat) : ByteArray := if q.den = 1 then decI q.num else decI q.num ++ (⟨#[47]⟩ ++ decS q.den)
theorem sgn_neg (z : Int) : (sgn z < 0) ↔ z < 0 := by
  unfold sgn
  split
  · omega
  · split <;> omega
theorem wholeText (neg : Bool) (l : List Nat) (hw : wf l) (hl : l.length ≤ 1000000) : CallOk Tryz.prog 139 [wh neg l] [] (.str (decI (zv neg l))) [] := by
  have c1 := zjm l hw hl
  have c2 := zhm neg l hw (by omega)
  have hz := zga (zax hw)
  have hs1 : (⟨#[45]⟩ : ByteArray).size = 1 := rfl
  have hn := sgn_neg (zv neg l)
  have hd : decI (zv neg l) = if zv neg l < 0 then ⟨#[45]⟩ ++ decS (val l) else decS (val l) := by rw [decI, zkz]
  rw [hd]
  generalize decS (val l) = T at *
  generalize zv neg l = z at *
  generalize sgn z = y at *
  by_cases h : z < 0
  · have hy := hn.2 h
    rw [if_pos h]
    refine CallOk.of_wl Tryz.func139 rfl rfl rfl (Nat.le_of_ble_eq_true rfl) ?_
    (repeat (first | with_reducible (first | refine WL.seq ?_ | refine WL.skip ?_ | refine WL.label ?_ | refine WL.block ?_ | refine WL.scope ?_ | refine WL.nilS ?_ | refine WL.reS ?_ | refine WL.exS ?_ | refine WL.nilB ?_ | refine WL.nilT ?_ | refine WL.exit ?_ | refine WL.ret ?_ | refine WL.exT ?_ | refine WL.exB ?_ | refine WL.exN rfl ?_ | refine WL.reT ?_ | refine WL.reB ?_) | ((first | refine WL.reg rfl ?_ | refine WL.regT zai rfl ?_); (conv => { arg 3; simp [prep, prep1] }); (repeat (first | (refine zae ?_ ?_; (focus (simp; done)); (conv => { arg 4; simp (disch := omega) [wh, hy, binS] }); (first | (first | refine zaa ?_ | (refine zac ?_; (conv => { arg 5; simp }))) | ((first | refine zal true rfl rfl ⟨_, Tryz.func141, rfl, rfl⟩ ?_ | refine zal true rfl rfl ⟨_, Tryz.func80, rfl, rfl⟩ ?_); (conv => { arg 6; simp (disch := omega) [wh, hy, binS] }); (first | refine zaf (c1) rfl ?_ | refine zaf (c2) rfl ?_); (conv => { arg 5; simp (disch := omega) [wh, hy, binS] })))) | (refine zab rfl ?_ ?_; (focus (simp; done))))); with_reducible refine zad ?_; (first | refine ⟨rfl, ?_⟩ | refine ⟨by simp [quietB], by simp [quietU], ?_⟩ | skip)) | (refine WL.cond ?_; (conv => { arg 1; simp (disch := omega) [wh, hy, binS] }); with_reducible (first | refine zaj ?_ | refine zak ?_ | refine zag (by omega) ?_ | refine zah (by omega) ?_))))
    refine ⟨[], ?_⟩
    simp (disch := omega) 
  · have hy : ¬ y < 0 := fun h' => h (hn.1 h')
    rw [if_neg h]
    refine CallOk.of_wl Tryz.func139 rfl rfl rfl (Nat.le_of_ble_eq_true rfl) ?_
    (repeat (first | with_reducible (first | refine WL.seq ?_ | refine WL.skip ?_ | refine WL.label ?_ | refine WL.block ?_ | refine WL.scope ?_ | refine WL.nilS ?_ | refine WL.reS ?_ | refine WL.exS ?_ | refine WL.nilB ?_ | refine WL.nilT ?_ | refine WL.exit ?_ | refine WL.ret ?_ | refine WL.exT ?_ | refine WL.exB ?_ | refine WL.exN rfl ?_ | refine WL.reT ?_ | refine WL.reB ?_) | ((first | refine WL.reg rfl ?_ | refine WL.regT zai rfl ?_); (conv => { arg 3; simp [prep, prep1] }); (repeat (first | (refine zae ?_ ?_; (focus (simp; done)); (conv => { arg 4; simp (disch := omega) [wh, hy, binS] }); (first | (first | refine zaa ?_ | (refine zac ?_; (conv => { arg 5; simp }))) | ((first | refine zal true rfl rfl ⟨_, Tryz.func141, rfl, rfl⟩ ?_ | refine zal true rfl rfl ⟨_, Tryz.func80, rfl, rfl⟩ ?_); (conv => { arg 6; simp (disch := omega) [wh, hy, binS] }); (first | refine zaf (c1) rfl ?_ | refine zaf (c2) rfl ?_); (conv => { arg 5; simp (disch := omega) [wh, hy, binS] })))) | (refine zab rfl ?_ ?_; (focus (simp; done))))); with_reducible refine zad ?_; (first | refine ⟨rfl, ?_⟩ | refine ⟨by simp [quietB], by simp [quietU], ?_⟩ | skip)) | (refine WL.cond ?_; (conv => { arg 1; simp (disch := omega) [wh, hy, binS] }); with_reducible (first | refine zaj ?_ | refine zak ?_ | refine zag (by omega) ?_ | refine zah (by omega) ?_))))
    refine ⟨[], ?_⟩
    simp (disch := omega) 
theorem figureText (sa : Bool) (na da : List Nat) (h1 : wf na) (h2 : wf da) (l1 : na.length ≤ 1000000) (l2 : da.length ≤ 1000000) (hsz : szQ (qv sa na da) ≤ 1000000) :
    CallOk Tryz.prog 88 [fr sa na da] [] (.str (figS (qv sa na da))) [] := by
  have c1 := zoc sa na da h1 h2 (by omega) (by omega)
  generalize qv sa na da = q at *
  have hn1 : (nw q.num.natAbs).length ≤ 1000000 := Nat.le_trans (Nat.le_max_left _ _) hsz
  have hn2 : (nw q.den).length ≤ 1000000 := Nat.le_trans (Nat.le_max_right _ _) hsz
  have c2 := wholeText (decide (q.num < 0)) (nw q.num.natAbs) (zaq _) hn1
  have hzq : zv (decide (q.num < 0)) (nw q.num.natAbs) = q.num := by
    unfold zv zs
    rw [zam]
    by_cases h : q.num < 0
    · simp [h]; omega
    · simp [h]; omega
  rw [hzq] at c2
  have c3 := zoo 1 (by decide)
  have c4 := znu (nw q.den) (nw 1) (zaq _) (zaq _) (by omega) (by rw [zft]; decide)
  rw [zam, zam] at c4
  have c5 := zjm (nw q.den) (zaq _) hn2
  rw [zam] at c5
  have z1 : (decI q.num).size ≤ 10000002 := Nat.le_trans (zmb (k := (nw q.num.natAbs).length) (by have := zax (zaq q.num.natAbs); rwa [zam] at this)) (by omega)
  have z2 : (decS q.den).size ≤ 10000001 := Nat.le_trans (zga (k := (nw q.den).length) (by have := zax (zaq q.den); rwa [zam] at this)) (by omega)
  have hs1 : (⟨#[47]⟩ : ByteArray).size = 1 := rfl
  have hs2 : ((⟨#[47]⟩ : ByteArray) ++ decS q.den).size ≤ 10000002 := by rw [ByteArray.size_append, hs1]; omega
  have hcmp : (cmpI q.den 1 = 0) ↔ q.den = 1 := by unfold cmpI; split <;> (try split) <;> omega
  unfold figS
  generalize decI q.num = T at *
  generalize decS q.den = U at *
  by_cases h : q.den = 1
  · have hy := hcmp.2 h
    rw [if_pos h]
    rw [hy] at c4
    refine CallOk.of_wl Tryz.func88 rfl rfl rfl (Nat.le_of_ble_eq_true rfl) ?_
    (repeat (first | with_reducible (first | refine WL.seq ?_ | refine WL.skip ?_ | refine WL.label ?_ | refine WL.block ?_ | refine WL.scope ?_ | refine WL.nilS ?_ | refine WL.reS ?_ | refine WL.exS ?_ | refine WL.nilB ?_ | refine WL.nilT ?_ | refine WL.exit ?_ | refine WL.ret ?_ | refine WL.exT ?_ | refine WL.exB ?_ | refine WL.exN rfl ?_ | refine WL.reT ?_ | refine WL.reB ?_) | ((first | refine WL.reg rfl ?_ | refine WL.regT zai rfl ?_); (conv => { arg 3; simp [prep, prep1] }); (repeat (first | (refine zae ?_ ?_; (focus (simp; done)); (conv => { arg 4; simp (disch := omega) [fr, frQ, wh] }); (first | (first | refine zaa ?_ | (refine zac ?_; (conv => { arg 5; simp }))) | ((first | refine zal true rfl rfl ⟨_, Tryz.func78, rfl, rfl⟩ ?_ | refine zal true rfl rfl ⟨_, Tryz.func139, rfl, rfl⟩ ?_ | refine zal true rfl rfl ⟨_, Tryz.func106, rfl, rfl⟩ ?_ | refine zal true rfl rfl ⟨_, Tryz.func140, rfl, rfl⟩ ?_); (conv => { arg 6; simp (disch := omega) [fr, frQ, wh] }); (first | refine zaf (c1) rfl ?_ | refine zaf (c2) rfl ?_ | refine zaf (c3) rfl ?_ | refine zaf (c4) rfl ?_); (conv => { arg 5; simp (disch := omega) [fr, frQ, wh] })))) | (refine zab rfl ?_ ?_; (focus (simp; done))))); with_reducible refine zad ?_; (first | refine ⟨rfl, ?_⟩ | refine ⟨by simp [quietB], by simp [quietU], ?_⟩ | skip)) | (refine WL.cond ?_; (conv => { arg 1; simp (disch := omega) [fr, frQ, wh] }); with_reducible (first | refine zaj ?_ | refine zak ?_ | refine zag (by omega) ?_ | refine zah (by omega) ?_))))
    refine ⟨[], ?_⟩
    simp (disch := omega) 
  · have hy : ¬ cmpI q.den 1 = 0 := fun h' => h (hcmp.1 h')
    rw [if_neg h]
    generalize cmpI q.den 1 = y at *
    refine CallOk.of_wl Tryz.func88 rfl rfl rfl (Nat.le_of_ble_eq_true rfl) ?_
    (repeat (first | with_reducible (first | refine WL.seq ?_ | refine WL.skip ?_ | refine WL.label ?_ | refine WL.block ?_ | refine WL.scope ?_ | refine WL.nilS ?_ | refine WL.reS ?_ | refine WL.exS ?_ | refine WL.nilB ?_ | refine WL.nilT ?_ | refine WL.exit ?_ | refine WL.ret ?_ | refine WL.exT ?_ | refine WL.exB ?_ | refine WL.exN rfl ?_ | refine WL.reT ?_ | refine WL.reB ?_) | ((first | refine WL.reg rfl ?_ | refine WL.regT zai rfl ?_); (conv => { arg 3; simp [prep, prep1] }); (repeat (first | (refine zae ?_ ?_; (focus (simp; done)); (conv => { arg 4; simp (disch := omega) [fr, frQ, wh, hy, binS] }); (first | (first | refine zaa ?_ | (refine zac ?_; (conv => { arg 5; simp }))) | ((first | refine zal true rfl rfl ⟨_, Tryz.func78, rfl, rfl⟩ ?_ | refine zal true rfl rfl ⟨_, Tryz.func139, rfl, rfl⟩ ?_ | refine zal true rfl rfl ⟨_, Tryz.func106, rfl, rfl⟩ ?_ | refine zal true rfl rfl ⟨_, Tryz.func140, rfl, rfl⟩ ?_ | refine zal true rfl rfl ⟨_, Tryz.func141, rfl, rfl⟩ ?_); (conv => { arg 6; simp (disch := omega) [fr, frQ, wh, hy, binS] }); (first | refine zaf (c1) rfl ?_ | refine zaf (c2) rfl ?_ | refine zaf (c3) rfl ?_ | refine zaf (c4) rfl ?_ | refine zaf (c5) rfl ?_); (conv => { arg 5; simp (disch := omega) [fr, frQ, wh, hy, binS] })))) | (refine zab rfl ?_ ?_; (focus (simp; done))))); with_reducible refine zad ?_; (first | refine ⟨rfl, ?_⟩ | refine ⟨by simp [quietB], by simp [quietU], ?_⟩ | skip)) | (refine WL.cond ?_; (conv => { arg 1; simp (disch := omega) [fr, frQ, wh, hy, binS] }); with_reducible (first | refine zaj ?_ | refine zak ?_ | refine zag (by omega) ?_ | refine zah (by omega) ?_))))
    refine ⟨[], ?_⟩
    simp (disch := omega) 
def rowS (l : List Rat) : ByteArray := ⟨(Lib.join (l.map fun q => (figS q).data.toList) [44]).toArray⟩
theorem figS_size {q : Rat} {k : Nat} (h : szQ q ≤ k) : (figS q).size ≤ 20 * k + 4 := by
  have hn1 : (nw q.num.natAbs).length ≤ k := Nat.le_trans (Nat.le_max_left _ _) h
  have hn2 : (nw q.den).length ≤ k := Nat.le_trans (Nat.le_max_right _ _) h
  have z1 := zmb (z := q.num) (k := (nw q.num.natAbs).length) (by have := zax (zaq q.num.natAbs); rwa [zam] at this)
  have z2 := zga (n := q.den) (k := (nw q.den).length) (by have := zax (zaq q.den); rwa [zam] at this)
  have hs1 : (⟨#[47]⟩ : ByteArray).size = 1 := rfl
  unfold figS
  split
  · omega
  · rw [ByteArray.size_append, ByteArray.size_append, hs1]; omega
theorem znz (c : UInt8) : ∀ (l : List (List UInt8)) (k : Nat), (∀ x ∈ l, x.length ≤ k) → (Lib.join l [c]).length ≤ l.length * (k + 1)
  | [], _, _ => by simp [Lib.join_nil]
  | [x], k, h => by rw [Lib.join_one]; have := h x (by simp); simp; omega
  | x :: y :: r, k, h => by
    have h1 := h x (by simp)
    have h2 := znz c (y :: r) k fun z hz => h z (by simp [hz])
    have e : Lib.join (x :: y :: r) [c] = x ++ [c] ++ Lib.join (y :: r) [c] := by simp [Lib.join, List.intercalate]
    rw [e, List.length_append, List.length_append]
    simp only [List.length_cons, List.length_nil] at *
    rw [Nat.add_mul (r.length + 1) 1 (k + 1)]
    omega
def textC (l : List RF) : List PV := l.map fun x => PV.str (figS x.q)
theorem zlh (l : List RF) : (textC l).length = l.length := by simp [textC]
theorem textC_succ (l : List RF) (i : Nat) (h : i < l.length) : textC (l.take (i + 1)) = textC (l.take i) ++ [PV.str (figS (l[i]'h).q)] := by
  rw [List.take_succ_eq_append_getElem h]; simp only [textC, List.map_append, List.map_cons, List.map_nil]
theorem zpm (l : List RF) (K : Nat) (hK : K ≤ 1000000) (ok : ∀ x ∈ l, x.ok K ∧ szQ x.q ≤ K) (hl : l.length ≤ 1000000) : CallOk Tryz.prog 35 [row l] [] (.str (rowS (l.map RF.q))) [] := by
  have hlen := zap l
  refine CallOk.of_wl Tryz.func35 rfl rfl rfl (Nat.le_of_ble_eq_true rfl) ?_
  (repeat (first | with_reducible (first | refine WL.seq ?_ | refine WL.skip ?_ | refine WL.label ?_ | refine WL.block ?_ | refine WL.scope ?_ | refine WL.nilS ?_ | refine WL.reS ?_ | refine WL.exS ?_ | refine WL.nilB ?_ | refine WL.nilT ?_ | refine WL.exit ?_ | refine WL.ret ?_ | refine WL.exT ?_ | refine WL.exB ?_ | refine WL.exN rfl ?_ | refine WL.reT ?_ | refine WL.reB ?_) | ((first | refine WL.reg rfl ?_ | refine WL.regT zai rfl ?_); (conv => { arg 3; simp [prep, prep1] }); (repeat (first | (refine zae ?_ ?_; (focus (simp; done)); (conv => { arg 4; simp (disch := omega) [row] }); (first | (first | refine zaa ?_ | (refine zac ?_; (conv => { arg 5; simp }))))) | (refine zab rfl ?_ ?_; (focus (simp; done))))); with_reducible refine zad ?_; (first | refine ⟨rfl, ?_⟩ | refine ⟨by simp [quietB], by simp [quietU], ?_⟩ | skip)) | (refine WL.cond ?_; (conv => { arg 1; simp (disch := omega) [row] }); with_reducible (first | refine zaj ?_ | refine zak ?_ | refine zag (by omega) ?_ | refine zah (by omega) ?_))))
  refine WL.loop (fun m s => ∃ i : Nat, m = l.length - i ∧ i ≤ l.length ∧ s.frame 6 = row l ∧ s.frame 7 = .int .i64 l.length ∧ s.frame 8 = .int .i64 i ∧
    ((i = 0 ∧ s.frame 3 = .nilS) ∨ ∃ G v, s.frame 3 = .sl ⟨16, G, 0⟩ v 0 i 1 ∧ s.store ⟨16, G, 0⟩ = some ⟨v, true, true, textC (l.take i)⟩)) l.length ?_ ?_
  · exact ⟨0, by omega, by omega, by simp [row], by simp [row], by simp, .inl ⟨rfl, by simp⟩⟩
  rintro m ⟨f, σ, g⟩ ⟨i, rfl, hi, h6, h7, h8, h3⟩
  simp only at h6 h7 h8 h3
  by_cases hi' : i < l.length
  · have rx := zeh hi'
    have h3l : 3 ≤ (rowC l).length - i * 3 := by omega
    obtain ⟨ok1, ok2⟩ := ok (l[i]'hi') (by simp)
    have c1 := figureText (l[i]'hi').neg (l[i]'hi').n (l[i]'hi').d ok1.wn ok1.wd (by have := ok1.ln; omega) (by have := ok1.ld; omega) (by have := ok2; unfold RF.q at this; omega)
    have htk := textC_succ l i hi'
    rw [show qv (l[i]'hi').neg (l[i]'hi').n (l[i]'hi').d = (l[i]'hi').q from rfl] at c1
    generalize l[i]'hi' = x at *
    generalize figS x.q = T at *
    rcases h3 with ⟨rfl, h3⟩ | ⟨G, v, h3, hst⟩
    · have rx0 : (rowC l).take 3 = x.cells := by simpa using rx
      have h3l0 : 3 ≤ l.length * 3 := by omega
      (repeat (first | with_reducible (first | refine WL.seq ?_ | refine WL.skip ?_ | refine WL.label ?_ | refine WL.block ?_ | refine WL.scope ?_ | refine WL.nilS ?_ | refine WL.reS ?_ | refine WL.exS ?_ | refine WL.nilB ?_ | refine WL.nilT ?_ | refine WL.exit ?_ | refine WL.ret ?_ | refine WL.exT ?_ | refine WL.exB ?_ | refine WL.exN rfl ?_ | refine WL.reT ?_ | refine WL.reB ?_) | ((first | refine WL.reg rfl ?_ | refine WL.regT zai rfl ?_); (conv => { arg 3; simp [prep, prep1] }); (repeat (first | (refine zae ?_ ?_; (focus (simp; done)); (conv => { arg 4; simp (disch := omega) [h6, h7, h8, row, hi', hlen, rx0, h3l0, RF.pv, RF.cells, fr, h3] }); (first | (first | refine zaa ?_ | (refine zac ?_; (conv => { arg 5; simp }))) | (refine zal true rfl rfl ⟨_, Tryz.func88, rfl, rfl⟩ ?_; (conv => { arg 6; simp (disch := omega) [h6, h7, h8, row, hi', hlen, rx0, h3l0, RF.pv, RF.cells, fr, h3] }); refine zaf (c1) rfl ?_; (conv => { arg 5; simp (disch := omega) [h6, h7, h8, row, hi', hlen, rx0, h3l0, RF.pv, RF.cells, fr, h3] })))) | (refine zab rfl ?_ ?_; (focus (simp; done))))); with_reducible refine zad ?_; (first | refine ⟨rfl, ?_⟩ | refine ⟨by simp [quietB], by simp [quietU], ?_⟩ | skip)) | (refine WL.cond ?_; (conv => { arg 1; simp (disch := omega) [h6, h7, h8, row, hi', hlen, rx0, h3l0, RF.pv, RF.cells, fr, h3] }); with_reducible (first | refine zaj ?_ | refine zak ?_ | refine zag (by omega) ?_ | refine zah (by omega) ?_))))
      exact ⟨l.length - 1, by omega, 1, rfl, by omega, by simp [h6, row], by simp [h7], by simp, .inr ⟨g 16, 0, by simp, by
        have htk0 : textC (l.take 0) = [] := by simp [textC]
        rw [htk0] at htk
        simp at htk
        simp [htk]⟩⟩
    · have hL : (textC (l.take i)).length = i := by rw [zlh, List.length_take]; omega
      generalize textC (l.take i) = L at *
      have hLt : L.take i = L := List.take_of_length_le (by omega)
      (repeat (first | with_reducible (first | refine WL.seq ?_ | refine WL.skip ?_ | refine WL.label ?_ | refine WL.block ?_ | refine WL.scope ?_ | refine WL.nilS ?_ | refine WL.reS ?_ | refine WL.exS ?_ | refine WL.nilB ?_ | refine WL.nilT ?_ | refine WL.exit ?_ | refine WL.ret ?_ | refine WL.exT ?_ | refine WL.exB ?_ | refine WL.exN rfl ?_ | refine WL.reT ?_ | refine WL.reB ?_) | ((first | refine WL.reg rfl ?_ | refine WL.regT zai rfl ?_); (conv => { arg 3; simp [prep, prep1] }); (repeat (first | (refine zae ?_ ?_; (focus (simp; done)); (conv => { arg 4; simp (disch := omega) [h6, h7, h8, row, hi', hlen, rx, h3l, RF.pv, RF.cells, fr, h3, hst, hL, hLt] }); (first | (first | refine zaa ?_ | (refine zac ?_; (conv => { arg 5; simp }))) | (refine zal true rfl rfl ⟨_, Tryz.func88, rfl, rfl⟩ ?_; (conv => { arg 6; simp (disch := omega) [h6, h7, h8, row, hi', hlen, rx, h3l, RF.pv, RF.cells, fr, h3, hst, hL, hLt] }); refine zaf (c1) rfl ?_; (conv => { arg 5; simp (disch := omega) [h6, h7, h8, row, hi', hlen, rx, h3l, RF.pv, RF.cells, fr, h3, hst, hL, hLt] })))) | (refine zab rfl ?_ ?_; (focus (simp; done))))); with_reducible refine zad ?_; (first | refine ⟨rfl, ?_⟩ | refine ⟨by simp [quietB], by simp [quietU], ?_⟩ | skip)) | (refine WL.cond ?_; (conv => { arg 1; simp (disch := omega) [h6, h7, h8, row, hi', hlen, rx, h3l, RF.pv, RF.cells, fr, h3, hst, hL, hLt] }); with_reducible (first | refine zaj ?_ | refine zak ?_ | refine zag (by omega) ?_ | refine zah (by omega) ?_))))
      exact ⟨l.length - (i + 1), by omega, i + 1, rfl, by omega, by simp [h6, row], by simp [h7], by simp, .inr ⟨G, v + 1, by simp, by simp [htk]⟩⟩
  · have hia : i = l.length := by omega
    subst hia
    rcases h3 with ⟨h0', h3⟩ | ⟨G, v, h3, hst⟩
    · have : l = [] := List.eq_nil_of_length_eq_zero h0'
      subst this
      have c2 := zph [] ⟨#[44]⟩ (by simp) (by simp [Lib.join_nil])
      rw [show (⟨(Lib.join (([] : List ByteArray).map (·.data.toList)) (ByteArray.mk #[44]).data.toList).toArray⟩ : ByteArray) = rowS (([] : List RF).map RF.q) from rfl] at c2
      simp only [List.map_nil, List.length_nil] at c2
      have h7' : f 7 = .int .i64 0 := by simpa using h7
      have h8' : f 8 = .int .i64 0 := by simpa using h8
      (repeat (first | with_reducible (first | refine WL.seq ?_ | refine WL.skip ?_ | refine WL.label ?_ | refine WL.block ?_ | refine WL.scope ?_ | refine WL.nilS ?_ | refine WL.reS ?_ | refine WL.exS ?_ | refine WL.nilB ?_ | refine WL.nilT ?_ | refine WL.exit ?_ | refine WL.ret ?_ | refine WL.exT ?_ | refine WL.exB ?_ | refine WL.exN rfl ?_ | refine WL.reT ?_ | refine WL.reB ?_) | ((first | refine WL.reg rfl ?_ | refine WL.regT zai rfl ?_); (conv => { arg 3; simp [prep, prep1] }); (repeat (first | (refine zae ?_ ?_; (focus (simp; done)); (conv => { arg 4; simp (disch := omega) [h6, h7', h8', row, h3] }); (first | (first | refine zaa ?_ | (refine zac ?_; (conv => { arg 5; simp }))) | (refine zal true rfl rfl ⟨_, Tryz.func89, rfl, rfl⟩ ?_; (conv => { arg 6; simp (disch := omega) [h6, h7', h8', row, h3] }); refine zaf (c2) rfl ?_; (conv => { arg 5; simp (disch := omega) [h6, h7', h8', row, h3] })))) | (refine zab rfl ?_ ?_; (focus (simp; done))))); with_reducible refine zad ?_; (first | refine ⟨rfl, ?_⟩ | refine ⟨by simp [quietB], by simp [quietU], ?_⟩ | skip)) | (refine WL.cond ?_; (conv => { arg 1; simp (disch := omega) [h6, h7', h8', row, h3] }); with_reducible (first | refine zaj ?_ | refine zak ?_ | refine zag (by omega) ?_ | refine zah (by omega) ?_))))
      refine ⟨[], ?_⟩
      simp (disch := omega) 
    · rw [List.take_length] at hst
      have c2 := zph (l.map fun x => figS x.q) ⟨#[44]⟩ (by simp; omega) (by
        refine Nat.le_trans (znz 44 _ (20 * K + 4) ?_) ?_
        · intro y hy
          simp only [List.map_map, List.mem_map, Function.comp] at hy
          obtain ⟨x, hx, rfl⟩ := hy
          have := figS_size (ok x hx).2
          rw [← ByteArray.size_data, ← Array.length_toList] at this
          exact this
        · simp only [List.length_map]
          calc l.length * (20 * K + 4 + 1) ≤ 1000000 * (20 * 1000000 + 4 + 1) := Nat.mul_le_mul hl (by omega)
            _ ≤ 140737488355328 := by decide)
      have hres : (⟨(Lib.join ((l.map fun x => figS x.q).map (·.data.toList)) (ByteArray.mk #[44]).data.toList).toArray⟩ : ByteArray) = rowS (l.map RF.q) := by
        simp [rowS, Function.comp_def]
      rw [hres] at c2
      have hm : (l.map fun x => figS x.q).map PV.str = textC l := by simp [textC]
      have hL := zlh l
      have hL2 : (l.map fun x => figS x.q).length = l.length := by simp
      rw [hL2, hm] at c2
      generalize textC l = L at *
      have hLt : L.take l.length = L := List.take_of_length_le (by omega)
      (repeat (first | with_reducible (first | refine WL.seq ?_ | refine WL.skip ?_ | refine WL.label ?_ | refine WL.block ?_ | refine WL.scope ?_ | refine WL.nilS ?_ | refine WL.reS ?_ | refine WL.exS ?_ | refine WL.nilB ?_ | refine WL.nilT ?_ | refine WL.exit ?_ | refine WL.ret ?_ | refine WL.exT ?_ | refine WL.exB ?_ | refine WL.exN rfl ?_ | refine WL.reT ?_ | refine WL.reB ?_) | ((first | refine WL.reg rfl ?_ | refine WL.regT zai rfl ?_); (conv => { arg 3; simp [prep, prep1] }); (repeat (first | (refine zae ?_ ?_; (focus (simp; done)); (conv => { arg 4; simp (disch := omega) [h6, h7, h8, row, h3, hst, hL, hLt] }); (first | (first | refine zaa ?_ | (refine zac ?_; (conv => { arg 5; simp }))) | (refine zal true rfl rfl ⟨_, Tryz.func89, rfl, rfl⟩ ?_; (conv => { arg 6; simp (disch := omega) [h6, h7, h8, row, h3, hst, hL, hLt] }); refine zaf (c2) rfl ?_; (conv => { arg 5; simp (disch := omega) [h6, h7, h8, row, h3, hst, hL, hLt] })))) | (refine zab rfl ?_ ?_; (focus (simp; done))))); with_reducible refine zad ?_; (first | refine ⟨rfl, ?_⟩ | refine ⟨by simp [quietB], by simp [quietU], ?_⟩ | skip)) | (refine WL.cond ?_; (conv => { arg 1; simp (disch := omega) [h6, h7, h8, row, h3, hst, hL, hLt] }); with_reducible (first | refine zaj ?_ | refine zak ?_ | refine zag (by omega) ?_ | refine zah (by omega) ?_))))
      refine ⟨[], ?_⟩
      simp (disch := omega) 
def wSpn : Spn := ⟨RF.of 0, RF.of 2, [RF.of 0], [RF.of 8], [RF.of 0], [RF.of 12]⟩
theorem wSpn_at : wSpn.atQ 1 = [1] := by
  simp only [Spn.atQ, Spn.x, wSpn, qs, List.map_cons, List.map_nil, RF.of_q]
  simp [mixQ, addRow, zeroQ, prodQ, Rat.div_def]
  grind
theorem wSpn_slope : wSpn.slopeQ 1 = [3] := by
  simp only [Spn.slopeQ, Spn.x, wSpn, qs, List.map_cons, List.map_nil, RF.of_q]
  simp [mixQ, addRow, zeroQ, prodQ, Rat.div_def]
  grind
theorem rowS_1 : rowS [1] = ⟨#[49]⟩ := by decide
theorem rowS_3 : rowS [3] = ⟨#[51]⟩ := by decide
theorem zqr (n : Int) (h : n.natAbs < 4294967296) : szQ (n : Rat) ≤ 1 := zda n h
theorem of_ok (n : Int) (h : n.natAbs < 4294967296) : (RF.of (n : Rat)).ok 65536 := RF.of_ok (Nat.le_trans (zda n h) (by decide))
theorem zov : wSpn.ok 65536 := by
  have o0 : (RF.of 0).ok 65536 := of_ok 0 (by decide)
  have o2 : (RF.of 2).ok 65536 := of_ok 2 (by decide)
  have o8 : (RF.of 8).ok 65536 := of_ok 8 (by decide)
  have o12 : (RF.of 12).ok 65536 := of_ok 12 (by decide)
  refine ⟨o0, o2, ?_, ?_, ?_, ?_⟩ <;> (intro x hx; simp [wSpn] at hx; subst hx; assumption)
theorem zis : wSpn.right = true := by
  simp only [Spn.right, wSpn, RF.of_q]
  decide
set_option maxHeartbeats 4000000 in
theorem zmf : CallOk Tryz.prog 13 [] [] (.bool true) [] := by
  have c0 := zeo 0 (by omega)
  have c1 := zeo 1 (by omega)
  have c2 := zeo 2 (by omega)
  have c8 := zeo 8 (by omega)
  have c12 := zeo 12 (by omega)
  have k1 := zqt wSpn (RF.of 1) zis (of_ok 1 (by decide)) zov
  have k2 := zlj wSpn (RF.of 1) zis (of_ok 1 (by decide)) zov
  rw [RF.of_q, wSpn_at] at k1
  rw [RF.of_q, wSpn_slope] at k2
  have t1 := zpm [RF.of 1] 65536 (by decide) (by intro x hx; simp at hx; subst hx; exact ⟨of_ok 1 (by decide), by rw [RF.of_q]; exact Nat.le_trans (zqr 1 (by decide)) (by decide)⟩) (by decide)
  have t3 := zpm [RF.of 3] 65536 (by decide) (by intro x hx; simp at hx; subst hx; exact ⟨of_ok 3 (by decide), by rw [RF.of_q]; exact Nat.le_trans (zqr 3 (by decide)) (by decide)⟩) (by decide)
  simp only [List.map_cons, List.map_nil, RF.of_q, rowS_1, rowS_3] at t1 t3
  simp only [wSpn, rowQ, List.map_cons, List.map_nil] at k1 k2
  have c0 : CallOk _ _ _ _ (RF.of 0).pv _ := c0
  have c1 : CallOk _ _ _ _ (RF.of 1).pv _ := c1
  have c2 : CallOk _ _ _ _ (RF.of 2).pv _ := c2
  have c8 : CallOk _ _ _ _ (RF.of 8).pv _ := c8
  have c12 : CallOk _ _ _ _ (RF.of 12).pv _ := c12
  generalize RF.of 0 = r0 at *
  generalize RF.of 1 = r1 at *
  generalize RF.of 2 = r2 at *
  generalize RF.of 3 = r3 at *
  generalize RF.of 8 = r8 at *
  generalize RF.of 12 = r12 at *
  simp only [Spn.pv, Spn.cells, row, rowC, RF.pv, RF.cells, List.flatMap_cons, List.flatMap_nil, List.map_cons, List.map_nil, List.length_cons, List.length_nil, List.flatten_cons, List.flatten_nil, List.append_nil, List.cons_append, List.nil_append, Nat.zero_add] at *
  refine CallOk.of_wl Tryz.func13 rfl rfl rfl (Nat.le_of_ble_eq_true rfl) ?_
  (repeat (first | with_reducible (first | refine WL.seq ?_ | refine WL.skip ?_ | refine WL.label ?_ | refine WL.block ?_ | refine WL.scope ?_ | refine WL.nilS ?_ | refine WL.reS ?_ | refine WL.exS ?_ | refine WL.nilB ?_ | refine WL.nilT ?_ | refine WL.exit ?_ | refine WL.ret ?_ | refine WL.exT ?_ | refine WL.exB ?_ | refine WL.exN rfl ?_ | refine WL.reT ?_ | refine WL.reB ?_) | ((first | refine WL.reg rfl ?_ | refine WL.regT zai rfl ?_); (conv => { arg 3; simp [prep, prep1] }); (repeat (first | (refine zae ?_ ?_; (focus (simp; done)); (conv => { arg 4; simp (disch := omega) [-litE, zbr, binS] }); (first | (first | refine zaa ?_ | (refine zac ?_; (conv => { arg 5; simp }))) | ((first | refine zal true rfl rfl ⟨_, Tryz.func60, rfl, rfl⟩ ?_ | refine zal true rfl rfl ⟨_, Tryz.func14, rfl, rfl⟩ ?_ | refine zal true rfl rfl ⟨_, Tryz.func17, rfl, rfl⟩ ?_ | refine zal true rfl rfl ⟨_, Tryz.func35, rfl, rfl⟩ ?_); (conv => { arg 6; simp (disch := omega) [-litE, zbr, binS] }); (first | refine zaf (c0) rfl ?_ | refine zaf (c1) rfl ?_ | refine zaf (c2) rfl ?_ | refine zaf (c8) rfl ?_ | refine zaf (c12) rfl ?_ | refine zaf (k1) rfl ?_ | refine zaf (k2) rfl ?_ | refine zaf (t1) rfl ?_ | refine zaf (t3) rfl ?_); (conv => { arg 5; simp (disch := omega) [-litE, zbr, binS] })))) | (refine zab rfl ?_ ?_; (focus (simp; done))))); with_reducible refine zad ?_; (first | refine ⟨rfl, ?_⟩ | refine ⟨by simp [quietB], by simp [quietU], ?_⟩ | skip)) | (refine WL.cond ?_; (conv => { arg 1; simp (disch := omega) [-litE, zbr, binS] }); with_reducible (first | refine zaj ?_ | refine zak ?_ | refine zag (by omega) ?_ | refine zah (by omega) ?_))))
  refine ⟨[], ?_⟩
  simp (disch := omega) 
theorem spanAtNo (c : Spn) (s : RF) (hh : c.h.ok 68719476736) (hr : c.right = false) : CallOk Tryz.prog 14 [c.pv, s.pv] [] (.tup [.rd [] 0, .bool false]) [] := by
  have k0 := zdv c hh
  rw [hr] at k0
  clear hr hh
  obtain ⟨t, h, y0, y1, f0, f1⟩ := c
  simp only [Spn.pv, Spn.cells, row, RF.pv, RF.cells] at *
  refine CallOk.of_wl Tryz.func14 rfl rfl rfl (Nat.le_of_ble_eq_true rfl) ?_
  (repeat (first | with_reducible (first | refine WL.seq ?_ | refine WL.skip ?_ | refine WL.label ?_ | refine WL.block ?_ | refine WL.scope ?_ | refine WL.nilS ?_ | refine WL.reS ?_ | refine WL.exS ?_ | refine WL.nilB ?_ | refine WL.nilT ?_ | refine WL.exit ?_ | refine WL.ret ?_ | refine WL.exT ?_ | refine WL.exB ?_ | refine WL.exN rfl ?_ | refine WL.reT ?_ | refine WL.reB ?_) | ((first | refine WL.reg rfl ?_ | refine WL.regT zai rfl ?_); (conv => { arg 3; simp [prep, prep1] }); (repeat (first | (refine zae ?_ ?_; (focus (simp; done)); (conv => { arg 4; simp (disch := omega)  }); (first | (first | refine zaa ?_ | (refine zac ?_; (conv => { arg 5; simp }))) | (refine zal true rfl rfl ⟨_, Tryz.func20, rfl, rfl⟩ ?_; (conv => { arg 6; simp (disch := omega)  }); refine zaf (k0) rfl ?_; (conv => { arg 5; simp (disch := omega)  })))) | (refine zab rfl ?_ ?_; (focus (simp; done))))); with_reducible refine zad ?_; (first | refine ⟨rfl, ?_⟩ | refine ⟨by simp [quietB], by simp [quietU], ?_⟩ | skip)) | (refine WL.cond ?_; (conv => { arg 1; simp (disch := omega)  }); with_reducible (first | refine zaj ?_ | refine zak ?_ | refine zag (by omega) ?_ | refine zah (by omega) ?_))))
  refine ⟨[], ?_⟩
  simp (disch := omega) 
theorem spanSlopeNo (c : Spn) (s : RF) (hh : c.h.ok 68719476736) (hr : c.right = false) : CallOk Tryz.prog 17 [c.pv, s.pv] [] (.tup [.rd [] 0, .bool false]) [] := by
  have k0 := zdv c hh
  rw [hr] at k0
  clear hr hh
  obtain ⟨t, h, y0, y1, f0, f1⟩ := c
  simp only [Spn.pv, Spn.cells, row, RF.pv, RF.cells] at *
  refine CallOk.of_wl Tryz.func17 rfl rfl rfl (Nat.le_of_ble_eq_true rfl) ?_
  (repeat (first | with_reducible (first | refine WL.seq ?_ | refine WL.skip ?_ | refine WL.label ?_ | refine WL.block ?_ | refine WL.scope ?_ | refine WL.nilS ?_ | refine WL.reS ?_ | refine WL.exS ?_ | refine WL.nilB ?_ | refine WL.nilT ?_ | refine WL.exit ?_ | refine WL.ret ?_ | refine WL.exT ?_ | refine WL.exB ?_ | refine WL.exN rfl ?_ | refine WL.reT ?_ | refine WL.reB ?_) | ((first | refine WL.reg rfl ?_ | refine WL.regT zai rfl ?_); (conv => { arg 3; simp [prep, prep1] }); (repeat (first | (refine zae ?_ ?_; (focus (simp; done)); (conv => { arg 4; simp (disch := omega)  }); (first | (first | refine zaa ?_ | (refine zac ?_; (conv => { arg 5; simp }))) | (refine zal true rfl rfl ⟨_, Tryz.func20, rfl, rfl⟩ ?_; (conv => { arg 6; simp (disch := omega)  }); refine zaf (k0) rfl ?_; (conv => { arg 5; simp (disch := omega)  })))) | (refine zab rfl ?_ ?_; (focus (simp; done))))); with_reducible refine zad ?_; (first | refine ⟨rfl, ?_⟩ | refine ⟨by simp [quietB], by simp [quietU], ?_⟩ | skip)) | (refine WL.cond ?_; (conv => { arg 1; simp (disch := omega)  }); with_reducible (first | refine zaj ?_ | refine zak ?_ | refine zag (by omega) ?_ | refine zah (by omega) ?_))))
  refine ⟨[], ?_⟩
  simp (disch := omega) 
set_option maxHeartbeats 4000000 in
theorem cubicsLong (c : Spn) (s : RF) (hL : c.long || longF s 2) (h0 : c.y0.length ≤ 2513169434843) (h1 : c.y1.length ≤ 2513169434843) (h2 : c.f0.length ≤ 2513169434843) (h3 : c.f1.length ≤ 2513169434843) : CallOk Tryz.prog 3 [c.pv, s.pv] [] (.bool true) [] := by
  have k2 := zib c h0 h1 h2 h3
  have k3 := zdw s 2 (by decide)
  have kw := zmf
  generalize c.long = b1 at *
  generalize longF s 2 = b2 at *
  clear h0 h1 h2 h3
  obtain ⟨t, h, y0, y1, f0, f1⟩ := c
  simp only [Spn.pv, Spn.cells, row, RF.pv, RF.cells] at *
  cases b1
  · cases b2
    · simp at hL
    · refine CallOk.of_wl Tryz.func3 rfl rfl rfl (Nat.le_of_ble_eq_true rfl) ?_
      (repeat (first | with_reducible (first | refine WL.seq ?_ | refine WL.skip ?_ | refine WL.label ?_ | refine WL.block ?_ | refine WL.scope ?_ | refine WL.nilS ?_ | refine WL.reS ?_ | refine WL.exS ?_ | refine WL.nilB ?_ | refine WL.nilT ?_ | refine WL.exit ?_ | refine WL.ret ?_ | refine WL.exT ?_ | refine WL.exB ?_ | refine WL.exN rfl ?_ | refine WL.reT ?_ | refine WL.reB ?_) | ((first | refine WL.reg rfl ?_ | refine WL.regT zai rfl ?_); (conv => { arg 3; simp [prep, prep1] }); (repeat (first | (refine zae ?_ ?_; (focus (simp; done)); (conv => { arg 4; simp (disch := omega)  }); (first | (first | refine zaa ?_ | (refine zac ?_; (conv => { arg 5; simp }))) | ((first | refine zal true rfl rfl ⟨_, Tryz.func11, rfl, rfl⟩ ?_ | refine zal true rfl rfl ⟨_, Tryz.func12, rfl, rfl⟩ ?_ | refine zal true rfl rfl ⟨_, Tryz.func13, rfl, rfl⟩ ?_); (conv => { arg 6; simp (disch := omega)  }); (first | refine zaf (k2) rfl ?_ | refine zaf (k3) rfl ?_ | refine zaf (kw) rfl ?_); (conv => { arg 5; simp (disch := omega)  })))) | (refine zab rfl ?_ ?_; (focus (simp; done))))); with_reducible refine zad ?_; (first | refine ⟨rfl, ?_⟩ | refine ⟨by simp [quietB], by simp [quietU], ?_⟩ | skip)) | (refine WL.cond ?_; (conv => { arg 1; simp (disch := omega)  }); with_reducible (first | refine zaj ?_ | refine zak ?_ | refine zag (by omega) ?_ | refine zah (by omega) ?_))))
      refine ⟨[], ?_⟩
      simp (disch := omega) 
  · refine CallOk.of_wl Tryz.func3 rfl rfl rfl (Nat.le_of_ble_eq_true rfl) ?_
    (repeat (first | with_reducible (first | refine WL.seq ?_ | refine WL.skip ?_ | refine WL.label ?_ | refine WL.block ?_ | refine WL.scope ?_ | refine WL.nilS ?_ | refine WL.reS ?_ | refine WL.exS ?_ | refine WL.nilB ?_ | refine WL.nilT ?_ | refine WL.exit ?_ | refine WL.ret ?_ | refine WL.exT ?_ | refine WL.exB ?_ | refine WL.exN rfl ?_ | refine WL.reT ?_ | refine WL.reB ?_) | ((first | refine WL.reg rfl ?_ | refine WL.regT zai rfl ?_); (conv => { arg 3; simp [prep, prep1] }); (repeat (first | (refine zae ?_ ?_; (focus (simp; done)); (conv => { arg 4; simp (disch := omega)  }); (first | (first | refine zaa ?_ | (refine zac ?_; (conv => { arg 5; simp }))) | ((first | refine zal true rfl rfl ⟨_, Tryz.func11, rfl, rfl⟩ ?_ | refine zal true rfl rfl ⟨_, Tryz.func13, rfl, rfl⟩ ?_); (conv => { arg 6; simp (disch := omega)  }); (first | refine zaf (k2) rfl ?_ | refine zaf (kw) rfl ?_); (conv => { arg 5; simp (disch := omega)  })))) | (refine zab rfl ?_ ?_; (focus (simp; done))))); with_reducible refine zad ?_; (first | refine ⟨rfl, ?_⟩ | refine ⟨by simp [quietB], by simp [quietU], ?_⟩ | skip)) | (refine WL.cond ?_; (conv => { arg 1; simp (disch := omega)  }); with_reducible (first | refine zaj ?_ | refine zak ?_ | refine zag (by omega) ?_ | refine zah (by omega) ?_))))
    refine ⟨[], ?_⟩
    simp (disch := omega) 
set_option maxHeartbeats 4000000 in
theorem cubicsNo (c : Spn) (s : RF) (hw : c.wfS) (hws : s.wfR) (h : c.long = false) (hs : longF s 2 = false) (hr : c.right = false) : CallOk Tryz.prog 3 [c.pv, s.pv] [] (.bool true) [] := by
  obtain ⟨ok, l0, l1, l2, l3⟩ := Spn.long_no h hw
  have oks := zfw hs hws
  have k1 := zpy c (by omega) (by omega) (by omega) (by omega)
  have k2 := zib c (by omega) (by omega) (by omega) (by omega)
  have k3 := zdw s 2 (by decide)
  rw [h] at k2
  rw [hs] at k3
  have k4 := zic s
  have kw := zmf
  have kA := spanAtNo c s (ok.h.mono (by decide)) hr
  have kS := spanSlopeNo c s (ok.h.mono (by decide)) hr
  have kR := zdv c (ok.h.mono (by decide))
  have kN := zlo c (ok.mono (by decide)) (by omega) (by omega) (by omega) (by omega)
  have kQ := zjb c (Nat.le_trans (ok.h.sz (by decide)) (by decide)) (by omega)
  rw [hr] at kR kQ
  clear ok oks hw hws h hs hr l0 l1 l2 l3
  generalize hcn : c.norm = cn at *
  clear hcn
  obtain ⟨t', h', y0', y1', f0', f1'⟩ := cn
  obtain ⟨t, h, y0, y1, f0, f1⟩ := c
  simp only [Spn.pv, Spn.cells, row, RF.pv, RF.cells] at *
  refine CallOk.of_wl Tryz.func3 rfl rfl rfl (Nat.le_of_ble_eq_true rfl) ?_
  (repeat (first | with_reducible (first | refine WL.seq ?_ | refine WL.skip ?_ | refine WL.label ?_ | refine WL.block ?_ | refine WL.scope ?_ | refine WL.nilS ?_ | refine WL.reS ?_ | refine WL.exS ?_ | refine WL.nilB ?_ | refine WL.nilT ?_ | refine WL.exit ?_ | refine WL.ret ?_ | refine WL.exT ?_ | refine WL.exB ?_ | refine WL.exN rfl ?_ | refine WL.reT ?_ | refine WL.reB ?_) | ((first | refine WL.reg rfl ?_ | refine WL.regT zai rfl ?_); (conv => { arg 3; simp [prep, prep1] }); (repeat (first | (refine zae ?_ ?_; (focus (simp; done)); (conv => { arg 4; simp (disch := omega)  }); (first | (first | refine zaa ?_ | (refine zac ?_; (conv => { arg 5; simp }))) | ((first | refine zal true rfl rfl ⟨_, Tryz.func11, rfl, rfl⟩ ?_ | refine zal true rfl rfl ⟨_, Tryz.func12, rfl, rfl⟩ ?_); (conv => { arg 6; simp (disch := omega)  }); (first | refine zaf (k2) rfl ?_ | refine zaf (k3) rfl ?_); (conv => { arg 5; simp (disch := omega)  })))) | (refine zab rfl ?_ ?_; (focus (simp; done))))); with_reducible refine zad ?_; (first | refine ⟨rfl, ?_⟩ | refine ⟨by simp [quietB], by simp [quietU], ?_⟩ | skip)) | (refine WL.cond ?_; (conv => { arg 1; simp (disch := omega)  }); with_reducible (first | refine zaj ?_ | refine zak ?_ | refine zag (by omega) ?_ | refine zah (by omega) ?_))))
  (repeat (first | with_reducible (first | refine WL.seq ?_ | refine WL.skip ?_ | refine WL.label ?_ | refine WL.block ?_ | refine WL.scope ?_ | refine WL.nilS ?_ | refine WL.reS ?_ | refine WL.exS ?_ | refine WL.nilB ?_ | refine WL.nilT ?_ | refine WL.exit ?_ | refine WL.ret ?_ | refine WL.exT ?_ | refine WL.exB ?_ | refine WL.exN rfl ?_ | refine WL.reT ?_ | refine WL.reB ?_) | ((first | refine WL.reg rfl ?_ | refine WL.regT zai rfl ?_); (conv => { arg 3; simp [prep, prep1] }); (repeat (first | (refine zae ?_ ?_; (focus (simp; done)); (conv => { arg 4; simp (disch := omega)  }); (first | (first | refine zaa ?_ | (refine zac ?_; (conv => { arg 5; simp }))) | ((first | refine zal true rfl rfl ⟨_, Tryz.func15, rfl, rfl⟩ ?_ | refine zal true rfl rfl ⟨_, Tryz.func16, rfl, rfl⟩ ?_ | refine zal true rfl rfl ⟨_, Tryz.func14, rfl, rfl⟩ ?_ | refine zal true rfl rfl ⟨_, Tryz.func17, rfl, rfl⟩ ?_); (conv => { arg 6; simp (disch := omega)  }); (first | refine zaf (k1) rfl ?_ | refine zaf (k4) rfl ?_ | refine zaf (kA) rfl ?_ | refine zaf (kS) rfl ?_); (conv => { arg 5; simp (disch := omega)  })))) | (refine zab rfl ?_ ?_; (focus (simp; done))))); with_reducible refine zad ?_; (first | refine ⟨rfl, ?_⟩ | refine ⟨by simp [quietB], by simp [quietU], ?_⟩ | skip)) | (refine WL.cond ?_; (conv => { arg 1; simp (disch := omega)  }); with_reducible (first | refine zaj ?_ | refine zak ?_ | refine zag (by omega) ?_ | refine zah (by omega) ?_))))
  (repeat (first | with_reducible (first | refine WL.seq ?_ | refine WL.skip ?_ | refine WL.label ?_ | refine WL.block ?_ | refine WL.scope ?_ | refine WL.nilS ?_ | refine WL.reS ?_ | refine WL.exS ?_ | refine WL.nilB ?_ | refine WL.nilT ?_ | refine WL.exit ?_ | refine WL.ret ?_ | refine WL.exT ?_ | refine WL.exB ?_ | refine WL.exN rfl ?_ | refine WL.reT ?_ | refine WL.reB ?_) | ((first | refine WL.reg rfl ?_ | refine WL.regT zai rfl ?_); (conv => { arg 3; simp [prep, prep1] }); (repeat (first | (refine zae ?_ ?_; (focus (simp; done)); (conv => { arg 4; simp (disch := omega)  }); (first | (first | refine zaa ?_ | (refine zac ?_; (conv => { arg 5; simp }))) | ((first | refine zal true rfl rfl ⟨_, Tryz.func18, rfl, rfl⟩ ?_ | refine zal true rfl rfl ⟨_, Tryz.func19, rfl, rfl⟩ ?_ | refine zal true rfl rfl ⟨_, Tryz.func15, rfl, rfl⟩ ?_ | refine zal true rfl rfl ⟨_, Tryz.func20, rfl, rfl⟩ ?_); (conv => { arg 6; simp (disch := omega)  }); (first | refine zaf (kN) rfl ?_ | refine zaf (kQ) rfl ?_ | refine zaf (k1) rfl ?_ | refine zaf (kR) rfl ?_); (conv => { arg 5; simp (disch := omega)  })))) | (refine zab rfl ?_ ?_; (focus (simp; done))))); with_reducible refine zad ?_; (first | refine ⟨rfl, ?_⟩ | refine ⟨by simp [quietB], by simp [quietU], ?_⟩ | skip)) | (refine WL.cond ?_; (conv => { arg 1; simp (disch := omega)  }); with_reducible (first | refine zaj ?_ | refine zak ?_ | refine zag (by omega) ?_ | refine zah (by omega) ?_))))
  (repeat (first | with_reducible (first | refine WL.seq ?_ | refine WL.skip ?_ | refine WL.label ?_ | refine WL.block ?_ | refine WL.scope ?_ | refine WL.nilS ?_ | refine WL.reS ?_ | refine WL.exS ?_ | refine WL.nilB ?_ | refine WL.nilT ?_ | refine WL.exit ?_ | refine WL.ret ?_ | refine WL.exT ?_ | refine WL.exB ?_ | refine WL.exN rfl ?_ | refine WL.reT ?_ | refine WL.reB ?_) | ((first | refine WL.reg rfl ?_ | refine WL.regT zai rfl ?_); (conv => { arg 3; simp [prep, prep1] }); (repeat (first | (refine zae ?_ ?_; (focus (simp; done)); (conv => { arg 4; simp (disch := omega)  }); (first | (first | refine zaa ?_ | (refine zac ?_; (conv => { arg 5; simp }))) | (refine zal true rfl rfl ⟨_, Tryz.func13, rfl, rfl⟩ ?_; (conv => { arg 6; simp (disch := omega)  }); refine zaf (kw) rfl ?_; (conv => { arg 5; simp (disch := omega)  })))) | (refine zab rfl ?_ ?_; (focus (simp; done))))); with_reducible refine zad ?_; (first | refine ⟨rfl, ?_⟩ | refine ⟨by simp [quietB], by simp [quietU], ?_⟩ | skip)) | (refine WL.cond ?_; (conv => { arg 1; simp (disch := omega)  }); with_reducible (first | refine zaj ?_ | refine zak ?_ | refine zag (by omega) ?_ | refine zah (by omega) ?_))))
  refine ⟨[], ?_⟩
  simp (disch := omega) 
set_option maxHeartbeats 8000000 in
theorem cubicsGo (c : Spn) (s : RF) (hw : c.wfS) (hws : s.wfR) (h : c.long = false) (hs : longF s 2 = false) (hr : c.right = true) : CallOk Tryz.prog 3 [c.pv, s.pv] [] (.bool true) [] := by
  obtain ⟨ok, l0, l1, l2, l3⟩ := Spn.long_no h hw
  have oks := zfw hs hws
  have zs := oks.sz (by decide)
  have k1 := zpy c (by omega) (by omega) (by omega) (by omega)
  have k2 := zib c (by omega) (by omega) (by omega) (by omega)
  have k3 := zdw s 2 (by decide)
  rw [h] at k2
  rw [hs] at k3
  have k4 := zic s
  have kw := zmf
  have kA := zqt c s hr (oks.mono (by decide)) (ok.mono (by decide))
  have kS := zlj c s hr (oks.mono (by decide)) (ok.mono (by decide))
  have kR := zdv c (ok.h.mono (by decide))
  have kN := zlo c (ok.mono (by decide)) (by omega) (by omega) (by omega) (by omega)
  have kQ := zjb c (Nat.le_trans (ok.h.sz (by decide)) (by decide)) (by omega)
  rw [hr] at kR kQ
  have kF : CallOk Tryz.prog 21 [s.pv] [] (RF.of s.q).pv [] := zfq s.neg s.n s.d oks.wn oks.wd (by have := oks.ln; omega) (by have := oks.ld; omega)
  have kB1 : CallOk _ _ [c.norm.pv, (RF.of s.q).pv, .bool false] _ _ _ := zpo c s.q false ok zs hr
  have kB2 : CallOk _ _ [c.norm.pv, (RF.of s.q).pv, .bool true] _ _ _ := zpo c s.q true ok zs hr
  have i1 := zpz (atR c false s.q) (atR c false s.q) (zoj c ok false s.q zs) (zoj c ok false s.q zs) (by rw [zgp]; omega) (by rw [zgp]; omega)
  have i2 := zpz (atR c true s.q) (atR c true s.q) (zoj c ok true s.q zs) (zoj c ok true s.q zs) (by rw [zgp]; omega) (by rw [zgp]; omega)
  rw [decide_eq_true rfl] at i1 i2
  rw [← atR_at c s.q ok hr] at kA
  rw [← atR_slope c s.q ok hr] at kS
  clear ok oks hw hws h hs hr l0 l1 l2 l3 zs
  unfold rowQ at *
  generalize (atR c false s.q).map RF.of = R1 at *
  generalize (atR c true s.q).map RF.of = R2 at *
  generalize RF.of s.q = sq at *
  generalize hcn : c.norm = cn at *
  clear hcn
  obtain ⟨t', h', y0', y1', f0', f1'⟩ := cn
  obtain ⟨t, h, y0, y1, f0, f1⟩ := c
  simp only [Spn.pv, Spn.cells, row, RF.pv, RF.cells] at *
  refine CallOk.of_wl Tryz.func3 rfl rfl rfl (Nat.le_of_ble_eq_true rfl) ?_
  (repeat (first | with_reducible (first | refine WL.seq ?_ | refine WL.skip ?_ | refine WL.label ?_ | refine WL.block ?_ | refine WL.scope ?_ | refine WL.nilS ?_ | refine WL.reS ?_ | refine WL.exS ?_ | refine WL.nilB ?_ | refine WL.nilT ?_ | refine WL.exit ?_ | refine WL.ret ?_ | refine WL.exT ?_ | refine WL.exB ?_ | refine WL.exN rfl ?_ | refine WL.reT ?_ | refine WL.reB ?_) | ((first | refine WL.reg rfl ?_ | refine WL.regT zai rfl ?_); (conv => { arg 3; simp [prep, prep1] }); (repeat (first | (refine zae ?_ ?_; (focus (simp; done)); (conv => { arg 4; simp (disch := omega)  }); (first | (first | refine zaa ?_ | (refine zac ?_; (conv => { arg 5; simp }))) | ((first | refine zal true rfl rfl ⟨_, Tryz.func11, rfl, rfl⟩ ?_ | refine zal true rfl rfl ⟨_, Tryz.func12, rfl, rfl⟩ ?_); (conv => { arg 6; simp (disch := omega)  }); (first | refine zaf (k2) rfl ?_ | refine zaf (k3) rfl ?_); (conv => { arg 5; simp (disch := omega)  })))) | (refine zab rfl ?_ ?_; (focus (simp; done))))); with_reducible refine zad ?_; (first | refine ⟨rfl, ?_⟩ | refine ⟨by simp [quietB], by simp [quietU], ?_⟩ | skip)) | (refine WL.cond ?_; (conv => { arg 1; simp (disch := omega)  }); with_reducible (first | refine zaj ?_ | refine zak ?_ | refine zag (by omega) ?_ | refine zah (by omega) ?_))))
  (repeat (first | with_reducible (first | refine WL.seq ?_ | refine WL.skip ?_ | refine WL.label ?_ | refine WL.block ?_ | refine WL.scope ?_ | refine WL.nilS ?_ | refine WL.reS ?_ | refine WL.exS ?_ | refine WL.nilB ?_ | refine WL.nilT ?_ | refine WL.exit ?_ | refine WL.ret ?_ | refine WL.exT ?_ | refine WL.exB ?_ | refine WL.exN rfl ?_ | refine WL.reT ?_ | refine WL.reB ?_) | ((first | refine WL.reg rfl ?_ | refine WL.regT zai rfl ?_); (conv => { arg 3; simp [prep, prep1] }); (repeat (first | (refine zae ?_ ?_; (focus (simp; done)); (conv => { arg 4; simp (disch := omega)  }); (first | (first | refine zaa ?_ | (refine zac ?_; (conv => { arg 5; simp }))) | ((first | refine zal true rfl rfl ⟨_, Tryz.func15, rfl, rfl⟩ ?_ | refine zal true rfl rfl ⟨_, Tryz.func16, rfl, rfl⟩ ?_ | refine zal true rfl rfl ⟨_, Tryz.func14, rfl, rfl⟩ ?_ | refine zal true rfl rfl ⟨_, Tryz.func17, rfl, rfl⟩ ?_); (conv => { arg 6; simp (disch := omega)  }); (first | refine zaf (k1) rfl ?_ | refine zaf (k4) rfl ?_ | refine zaf (kA) rfl ?_ | refine zaf (kS) rfl ?_); (conv => { arg 5; simp (disch := omega)  })))) | (refine zab rfl ?_ ?_; (focus (simp; done))))); with_reducible refine zad ?_; (first | refine ⟨rfl, ?_⟩ | refine ⟨by simp [quietB], by simp [quietU], ?_⟩ | skip)) | (refine WL.cond ?_; (conv => { arg 1; simp (disch := omega)  }); with_reducible (first | refine zaj ?_ | refine zak ?_ | refine zag (by omega) ?_ | refine zah (by omega) ?_))))
  clear kA kS
  (repeat (first | with_reducible (first | refine WL.seq ?_ | refine WL.skip ?_ | refine WL.label ?_ | refine WL.block ?_ | refine WL.scope ?_ | refine WL.nilS ?_ | refine WL.reS ?_ | refine WL.exS ?_ | refine WL.nilB ?_ | refine WL.nilT ?_ | refine WL.exit ?_ | refine WL.ret ?_ | refine WL.exT ?_ | refine WL.exB ?_ | refine WL.exN rfl ?_ | refine WL.reT ?_ | refine WL.reB ?_) | ((first | refine WL.reg rfl ?_ | refine WL.regT zai rfl ?_); (conv => { arg 3; simp [prep, prep1] }); (repeat (first | (refine zae ?_ ?_; (focus (simp; done)); (conv => { arg 4; simp (disch := omega)  }); (first | (first | refine zaa ?_ | (refine zac ?_; (conv => { arg 5; simp }))) | ((first | refine zal true rfl rfl ⟨_, Tryz.func18, rfl, rfl⟩ ?_ | refine zal true rfl rfl ⟨_, Tryz.func19, rfl, rfl⟩ ?_ | refine zal true rfl rfl ⟨_, Tryz.func15, rfl, rfl⟩ ?_ | refine zal true rfl rfl ⟨_, Tryz.func20, rfl, rfl⟩ ?_); (conv => { arg 6; simp (disch := omega)  }); (first | refine zaf (kN) rfl ?_ | refine zaf (kQ) rfl ?_ | refine zaf (k1) rfl ?_ | refine zaf (kR) rfl ?_); (conv => { arg 5; simp (disch := omega)  })))) | (refine zab rfl ?_ ?_; (focus (simp; done))))); with_reducible refine zad ?_; (first | refine ⟨rfl, ?_⟩ | refine ⟨by simp [quietB], by simp [quietU], ?_⟩ | skip)) | (refine WL.cond ?_; (conv => { arg 1; simp (disch := omega)  }); with_reducible (first | refine zaj ?_ | refine zak ?_ | refine zag (by omega) ?_ | refine zah (by omega) ?_))))
  clear kN kQ kR k1
  (repeat (first | with_reducible (first | refine WL.seq ?_ | refine WL.skip ?_ | refine WL.label ?_ | refine WL.block ?_ | refine WL.scope ?_ | refine WL.nilS ?_ | refine WL.reS ?_ | refine WL.exS ?_ | refine WL.nilB ?_ | refine WL.nilT ?_ | refine WL.exit ?_ | refine WL.ret ?_ | refine WL.exT ?_ | refine WL.exB ?_ | refine WL.exN rfl ?_ | refine WL.reT ?_ | refine WL.reB ?_) | ((first | refine WL.reg rfl ?_ | refine WL.regT zai rfl ?_); (conv => { arg 3; simp [prep, prep1] }); (repeat (first | (refine zae ?_ ?_; (focus (simp; done)); (conv => { arg 4; simp (disch := omega)  }); (first | (first | refine zaa ?_ | (refine zac ?_; (conv => { arg 5; simp }))) | (refine zal true rfl rfl ⟨_, Tryz.func21, rfl, rfl⟩ ?_; (conv => { arg 6; simp (disch := omega)  }); refine zaf (kF) rfl ?_; (conv => { arg 5; simp (disch := omega)  })))) | (refine zab rfl ?_ ?_; (focus (simp; done))))); with_reducible refine zad ?_; (first | refine ⟨rfl, ?_⟩ | refine ⟨by simp [quietB], by simp [quietU], ?_⟩ | skip)) | (refine WL.cond ?_; (conv => { arg 1; simp (disch := omega)  }); with_reducible (first | refine zaj ?_ | refine zak ?_ | refine zag (by omega) ?_ | refine zah (by omega) ?_))))
  (repeat (first | with_reducible (first | refine WL.seq ?_ | refine WL.skip ?_ | refine WL.label ?_ | refine WL.block ?_ | refine WL.scope ?_ | refine WL.nilS ?_ | refine WL.reS ?_ | refine WL.exS ?_ | refine WL.nilB ?_ | refine WL.nilT ?_ | refine WL.exit ?_ | refine WL.ret ?_ | refine WL.exT ?_ | refine WL.exB ?_ | refine WL.exN rfl ?_ | refine WL.reT ?_ | refine WL.reB ?_) | ((first | refine WL.reg rfl ?_ | refine WL.regT zai rfl ?_); (conv => { arg 3; simp [prep, prep1] }); (repeat (first | (refine zae ?_ ?_; (focus (simp; done)); (conv => { arg 4; simp (disch := omega)  }); (first | (first | refine zaa ?_ | (refine zac ?_; (conv => { arg 5; simp }))) | ((first | refine zal true rfl rfl ⟨_, Tryz.func23, rfl, rfl⟩ ?_ | refine zal true rfl rfl ⟨_, Tryz.func22, rfl, rfl⟩ ?_ | refine zal true rfl rfl ⟨_, Tryz.func13, rfl, rfl⟩ ?_); (conv => { arg 6; simp (disch := omega)  }); (first | refine zaf (kB1) rfl ?_ | refine zaf (kB2) rfl ?_ | refine zaf (i1) rfl ?_ | refine zaf (i2) rfl ?_ | refine zaf (kw) rfl ?_); (conv => { arg 5; simp (disch := omega)  })))) | (refine zab rfl ?_ ?_; (focus (simp; done))))); with_reducible refine zad ?_; (first | refine ⟨rfl, ?_⟩ | refine ⟨by simp [quietB], by simp [quietU], ?_⟩ | skip)) | (refine WL.cond ?_; (conv => { arg 1; simp (disch := omega)  }); with_reducible (first | refine zaj ?_ | refine zak ?_ | refine zag (by omega) ?_ | refine zah (by omega) ?_))))
  refine ⟨[], ?_⟩
  simp (disch := omega) 
theorem lawSpanCubics (c : Spn) (s : RF) (hw : c.wfS) (hws : s.wfR) (h0 : c.y0.length ≤ 2513169434843) (h1 : c.y1.length ≤ 2513169434843) (h2 : c.f0.length ≤ 2513169434843) (h3 : c.f1.length ≤ 2513169434843) : CallOk Tryz.prog 3 [c.pv, s.pv] [] (.bool true) [] := by
  cases hL : (c.long || longF s 2)
  · simp only [Bool.or_eq_false_iff] at hL
    cases hr : c.right
    · exact cubicsNo c s hw hws hL.1 hL.2 hr
    · exact cubicsGo c s hw hws hL.1 hL.2 hr
  · exact cubicsLong c s hL h0 h1 h2 h3
end Go.Proofs.YthgldcflcmlgpaaGreatDoorE
end
section
/- From a contract to a row's step. -/
set_option linter.unusedVariables false
set_option linter.unusedSimpArgs false
namespace Go.Proofs.YthgldcflcmlgpaaGreatDoorE
open Go.ChangeShapes Go.WideShapes Go.ChangeAt Go.RowKit
def lawCtx (W : World) : Ctx := ⟨W, fun _ _ => False, fun _ => True, 0, fun _ => none, fun _ => none⟩
def lawEnv (W : World) : Env := env (lawCtx W) (fun _ => none) (stOf []) W
theorem entry_law {W : World} {ps : List PV} {args : Array Value} (hs : args.size = ps.length) (h : ∀ j, j < ps.length → VR (lawEnv W) (ps.getD j .any) (args.getD j undef)) : Entry (lawCtx W) (fun _ => none) ps [] args :=
  ⟨hs, h, ⟨fun id blk hb => by simp [env, stOf] at hb, fun id id' blk blk' g o o' hb => by simp [env, stOf] at hb⟩, fun id g h => h.elim⟩
theorem law_calls {P : Program} {f : FuncId} {ps : List PV} {b : Bool} (hc : CallOk P f ps [] (.bool b) []) {W : World} {args : Array Value} (hs : args.size = ps.length) (h : ∀ j, j < ps.length → VR (lawEnv W) (ps.getD j .any) (args.getD j undef)) :
    Calls P f args W fun e W' => e = .returned (.bool b) ∧ Below W.heap.size W W' :=
  (hc (lawCtx W) (fun _ => none) args (entry_law hs h)).mono fun e W' ⟨v, β', he, hL⟩ => by
    subst he
    rw [hL.vr.bool_inv]
    refine ⟨rfl, Keeps.below (B := W.heap.size) ?_⟩
    have hk := hL.keeps
    refine ⟨hk.os, hk.tape, hk.output, hk.size, fun k h1 h2 => hk.block k h1 fun ⟨id, h⟩ => h, hk.room⟩
theorem Below.trodAll {H : Type} {enc : TypeId × Value → H} {P : Program} (hl : laidOutB P = true) {W W' : World} (hb : Below W.heap.size W W') : ∀ {ts : List TypeId} {vs : List Value} {ds : List (DataW H)} {ps : List MemPlace},
    (ts.all fun t => P.readableRec t && decide (t < P.types.size)) = true → DataW.TrodAll enc P W 0 (fun _ => true) true ts vs ds ps → (∀ x ∈ ps, x.block < W.heap.size) → DataW.TrodAll enc P W' 0 (fun b => decide (b < W.heap.size)) true ts vs ds ps
  | [], [], [], ps, _, h, _ => h
  | t :: ts, v :: vs, d :: ds, ps, hr, h, hlt => by
    obtain ⟨p, q, h1, h2, rfl⟩ := h
    simp only [List.all_cons, Bool.and_eq_true, decide_eq_true_eq] at hr
    obtain ⟨⟨r1, r2⟩, r3⟩ := hr
    exact ⟨p, q, Below.trod hl r1 r2 h1 hb (fun x hx => hlt x (List.mem_append.2 (.inl hx))), Below.trodAll hl hb r3 h2 (fun x hx => hlt x (List.mem_append.2 (.inr hx))), rfl⟩
  | [], [], _ :: _, _, _, h, _ => h.elim
  | [], _ :: _, _, _, _, h, _ => h.elim
  | _ :: _, [], _, _, _, h, _ => h.elim
  | _ :: _, _ :: _, [], _, _, h, _ => h.elim
theorem law_post {H : Type} {enc : TypeId × Value → H} {P : Program} {fn : Func} {s : ChangeSpec} {W W' : World} {args : Array Value} {ds gs : List (DataW H)} {before : List MemPlace} {tb : TypeId} (hl : laidOutB P = true)
    (hr : (fn.params.toList.all fun t => P.readableRec t && decide (t < P.types.size)) = true) (hv : s.vars = []) (ht : fn.resultTypes = #[tb]) (hu : P.underlying tb = some .bool)
    (hW : DataW.Whole enc P fn.params.toList s.vars false W args.toList ds gs before) (hs1 : (s.fn H (ds ++ gs)).results = [.lit (.bool true)]) (hs2 : (s.fn H (ds ++ gs)).args = ds) (hs3 : (s.fn H (ds ++ gs)).vars = [])
    (hb : Below W.heap.size W W') : s.post enc P fn false true false false W args (.bool true) W' := by
  have hW' := hW
  obtain ⟨p, q, h1, h2, h3, h4, h5⟩ := hW
  rw [hv] at h2
  have hq : q = [] := by
    cases gs with
    | nil => exact h2
    | cons g gs => exact h2.elim
  subst hq
  rw [List.append_nil] at h3
  subst h3
  refine ⟨ds, gs, before, [], before, [], hW', ?_, ?_, ?_, World.keptBut_mono (fun _ hf => hf.elim) (hb.frame fun _ => False), nofun⟩
  · rw [hs1, ht]
    exact trodAll_cons_mk (shut_bool hu _) trodAll_mk0
  · rw [hs2]
    exact Below.trodAll hl hb hr h1 (fun x hx => by simpa using hW'.lt x hx)
  · rw [hs3, hv]; rfl
end Go.Proofs.YthgldcflcmlgpaaGreatDoorE
end
section
/- What a reading of an argument is, as a tree: a nil slice as a list without places; each slice and text within the form's own reach of bytes (this text, Eu or Ez, never two of them). -/
set_option linter.unusedVariables false
set_option linter.unusedSimpArgs false
namespace Go.Proofs.YthgldcflcmlgpaaGreatDoorE
open Go.ChangeShapes Go.WideShapes Go.ChangeAt Go.RowKit
theorem addr_add_block (a : Addr) (n : Nat) : (a.add n).block = a.block := by unfold Addr.add; split <;> rfl
def Tree (E : Env) (L : List PV) (cs : List Value) : Prop :=
  L.length = cs.length ∧ ∀ j, j < L.length → VR E (L.getD j .any) (cs.getD j undef) ∧ (cs.getD j undef).oneCell' = true
theorem Tree.one {E : Env} {p : PV} {v : Value} (h : VR E p v) (ho : v.oneCell' = true) : Tree E [p] [v] :=
  ⟨rfl, fun j hj => by
    have : j = 0 := by simpa using hj
    subst this
    exact ⟨h, ho⟩⟩
theorem Tree.app {E : Env} {A B : List PV} {va vb : List Value} (h : Tree E A va) (k : Tree E B vb) : Tree E (A ++ B) (va ++ vb) := by
  refine ⟨by simp [h.1, k.1], fun j hj => ?_⟩
  by_cases hlt : j < A.length
  · have := h.2 j hlt
    rw [List.getD_eq_getElem?_getD, List.getD_eq_getElem?_getD, List.getElem?_append_left hlt, List.getElem?_append_left (by rw [← h.1]; exact hlt), ← List.getD_eq_getElem?_getD, ← List.getD_eq_getElem?_getD]
    exact this
  · have := k.2 (j - A.length) (by simp at hj; omega)
    rw [List.getD_eq_getElem?_getD, List.getD_eq_getElem?_getD, List.getElem?_append_right (by omega), List.getElem?_append_right (by rw [← h.1]; omega), ← h.1, ← List.getD_eq_getElem?_getD, ← List.getD_eq_getElem?_getD]
    exact this
def tiles (P : Program) : List Field → Nat → Option Nat
  | [], o => some o
  | f :: r, o => if f.offset = o then tiles P r (o + P.cellsOf f.type) else none
def closedT (P : Program) (S : List TypeId) (t : TypeId) : Bool :=
  match P.underlying t with
  | some .bool | some (.int _) | some .string => true
  | some (.slice e) => S.contains e && decide (P.cellsOf e ≠ 0)
  | some (.struct fs) => fs.toList.all (fun f => S.contains f.type) && decide (tiles P fs.toList 0 = some (P.cellsOf t))
  | some (.array m e) => S.contains e && decide (P.cellsOf t = m * P.cellsOf e)
  | _ => false
def closedB (P : Program) (S : List TypeId) : Bool := S.all (closedT P S)
def Shape (P : Program) : Nat → TypeId → List PV → Prop
  | 0, _, _ => False
  | n + 1, t, L => match P.underlying t with
    | some .bool => ∃ b, L = [.bool b]
    | some (.int k) => ∃ x, L = [.int k x] ∧ (Lit.int k x).wf = true
    | some .string => ∃ s : ByteArray, L = [.str s] ∧ s.size ≤ reachBytes
    | some (.slice e) => ∃ len M, L = [.rd M len] ∧ M.length = len * P.cellsOf e ∧ len * P.bytesOf e ≤ reachBytes ∧ ∀ i, i < len → Shape P n e ((M.drop (i * P.cellsOf e)).take (P.cellsOf e))
    | some (.struct fs) => L.length = P.cellsOf t ∧ ∀ f ∈ fs.toList, Shape P n f.type ((L.drop f.offset).take (P.cellsOf f.type))
    | some (.array m e) => L.length = m * P.cellsOf e ∧ ∀ i, i < m → Shape P n e ((L.drop (i * P.cellsOf e)).take (P.cellsOf e))
    | _ => False
section
variable {H : Type} {enc : TypeId × Value → H} {P : Program} {W : World}
theorem zig {E : Env} {n : Nat} {cs : List Value} : ∀ (fs : List Field) (o tot : Nat), tiles P fs o = some tot → tot = cs.length → o ≤ cs.length →
    (∀ f ∈ fs, ∃ L, Tree E L ((cs.drop f.offset).take (P.cellsOf f.type)) ∧ Shape P n f.type L) →
    ∃ L, Tree E L (cs.drop o) ∧ ∀ f ∈ fs, o ≤ f.offset ∧ Shape P n f.type ((L.drop (f.offset - o)).take (P.cellsOf f.type))
  | [], o, tot, ht, he, ho, _ => by
    injection ht with ht
    refine ⟨[], ⟨by simp; omega, by simp⟩, by simp⟩
  | f :: r, o, tot, ht, he, ho, hf => by
    simp only [tiles] at ht
    split at ht
    · rename_i hfo
      have hle : ∀ (l : List Field) (a b : Nat), tiles P l a = some b → a ≤ b := by
        intro l
        induction l with
        | nil => intro a b h; injection h with h; omega
        | cons g l ih =>
          intro a b h
          simp only [tiles] at h
          split at h
          · have := ih _ _ h; omega
          · cases h
      have hb := hle _ _ _ ht
      obtain ⟨L2, h1, h2⟩ := zig r (o + P.cellsOf f.type) tot ht he (by omega) (fun g hg => hf g (by simp [hg]))
      obtain ⟨L1, k1, k2⟩ := hf f (by simp)
      have hl1 : L1.length = P.cellsOf f.type := by rw [k1.1, List.length_take, List.length_drop, hfo]; omega
      refine ⟨L1 ++ L2, ?_, ?_⟩
      · have := k1.app h1
        rw [hfo] at this
        rwa [← List.drop_drop, List.take_append_drop] at this
      · intro g hg
        rcases List.mem_cons.1 hg with e | hg
        · subst e
          refine ⟨by omega, ?_⟩
          rw [hfo, Nat.sub_self, List.drop_zero, List.take_append_of_le_length (by omega), List.take_of_length_le (by omega)]
          exact k2
        · obtain ⟨a1, a2⟩ := h2 g hg
          refine ⟨by omega, ?_⟩
          rw [List.drop_append, List.drop_of_length_le (by omega), List.nil_append, show g.offset - o - L1.length = g.offset - (o + P.cellsOf f.type) by omega]
          exact a2
    · cases ht
theorem cells_at {w : World} {base : Nat} {a : Addr} : ∀ {n : Nat} {cs : List Value}, w.cells? base a n = some cs → cs.length = n ∧ ∀ j, j < n → w.cell? (a.add j) = some (cs.getD j undef) := by
  intro n cs h
  unfold World.cells? at h
  split at h
  · have hl := Go.mapM_some_length h
    simp at hl
    refine ⟨hl, fun j hj => ?_⟩
    have hg := Go.mapM_some_get h j j (by simp [hj])
    rw [hg, List.getD_eq_getElem?_getD, List.getElem?_eq_getElem (by omega), Option.getD_some]
  · cases h
def Light (P : Program) (t : TypeId) (d : DataW H) : Prop := ∀ n ∈ d.weights P t, n ≤ reachBytes
theorem zlw {e : TypeId} {l : List (DataW H)} (h : ∀ n ∈ DataW.weightsAll P e l, n ≤ reachBytes) {d : DataW H} (hd : d ∈ l) : Light P e d := by
  induction l with
  | nil => cases hd
  | cons x r ih =>
    simp only [DataW.weightsAll, List.mem_append] at h
    rcases List.mem_cons.1 hd with e | e
    · subst e; exact fun n hn => h n (.inl hn)
    · exact ih (fun n hn => h n (.inr hn)) e
theorem zjh {l : List (DataW H)} : ∀ {ts : List TypeId}, (∀ n ∈ DataW.weightsEach P ts l, n ≤ reachBytes) → ∀ {i : Nat} {t : TypeId} {d : DataW H}, ts[i]? = some t → l[i]? = some d → Light P t d := by
  induction l with
  | nil => intro ts h i t d h1 h2; simp at h2
  | cons x r ih =>
    intro ts h i t d h1 h2
    cases ts with
    | nil => simp at h1
    | cons u us =>
      simp only [DataW.weightsEach, List.mem_append] at h
      cases i with
      | zero => simp at h1 h2; subst h1 h2; exact fun n hn => h n (.inl hn)
      | succ i => exact ih (fun n hn => h n (.inr hn)) (by simpa using h1) (by simpa using h2)
theorem zfm {S : List TypeId} {sp : Nat → Bool} {held : Bool} (hS : closedB P S = true) : ∀ (fuel : Nat) (t : TypeId) (cs : List Value) (x : DataW H × List MemPlace), t ∈ S → DataW.trod enc P W 0 sp held fuel t cs = some x → Light P t x.1 →
    ∃ L, Tree (lawEnv W).bare L cs ∧ Shape P fuel t L
  | 0, _, _, _, _, h, _ => by simp [DataW.trod] at h
  | n + 1, t, cs, x, ht, h, hK => by
    have hc := List.all_eq_true.1 hS t ht
    unfold closedT at hc
    unfold Shape
    split at hc
    · rename_i hu
      obtain ⟨b, rfl, _⟩ := DataW.trod_bool hu h
      exact ⟨[.bool b], .one (.bool _) rfl, b, rfl⟩
    · rename_i k hu
      obtain ⟨m, rfl, _, hw⟩ := DataW.trod_int hu h
      exact ⟨[.int k m], .one (.int _ _) rfl, m, rfl, hw⟩
    · rename_i hu
      obtain ⟨s, rfl, hx, hw⟩ := DataW.trod_string hu h
      rw [hx] at hK
      have hw2 := hK s.data.toList.length (by unfold DataW.weights; simp)
      rw [Array.length_toList] at hw2
      exact ⟨[.str s], .one (.str _) rfl, s, rfl, hw2⟩
    · rename_i e hu
      simp only [Bool.and_eq_true, List.contains_eq_mem, decide_eq_true_eq] at hc
      obtain ⟨he, hne⟩ := hc
      rcases DataW.trod_slice hu h with ⟨rfl, _⟩ | ⟨a, len, cap, elems, rest, m, hm, rfl, hx, _, h1, h2, h3, h4, _, _⟩
      · exact ⟨[.rd [] 0], .one (.rd0 _ _ _ (Nat.le_refl _)) rfl, 0, [], rfl, by simp, by simp, fun i hi => absurd hi (by omega)⟩
      · injection hm with hm; subst hm
        rw [hx] at hK
        unfold Light DataW.weights at hK
        rw [hu] at hK
        simp only [List.mem_cons, List.mem_append, List.length_map] at hK
        have hlK := hK _ (.inl rfl)
        have hlK2 : len * P.bytesOf e ≤ (elems.length + rest.length) * P.bytesOf e := Nat.mul_le_mul_right _ (by omega)
        have hKa : ∀ n ∈ DataW.weightsAll P e (elems.map (·.1)), n ≤ reachBytes := fun n hn => hK n (.inr (.inl hn))
        have key : ∀ k, k ≤ len → ∃ M : List PV, M.length = k * P.cellsOf e ∧ (∀ j, j < M.length → ∃ u, W.cell? (a.add j) = some u ∧ VR (lawEnv W).bare (M.getD j .any) u ∧ u.oneCell' = true) ∧ ∀ i, i < k → Shape P n e ((M.drop (i * P.cellsOf e)).take (P.cellsOf e)) := by
          intro k
          induction k with
          | zero => intro _; exact ⟨[], by simp, by simp, by simp⟩
          | succ k ih =>
            intro hk
            obtain ⟨M, m1, m2, m3⟩ := ih (by omega)
            have hel := h4 k (by omega)
            rw [List.getElem?_eq_getElem (by omega)] at hel
            obtain ⟨cs', c1, c2⟩ := Option.bind_eq_some_iff.1 hel
            obtain ⟨c3, c4⟩ := cells_at c1
            obtain ⟨L, l1, l2⟩ := zfm hS n e cs' _ he c2 (zlw hKa (List.mem_map_of_mem (f := (·.1)) (List.getElem_mem (l := elems) (n := k) (by omega))))
            have hLl : L.length = P.cellsOf e := by rw [l1.1, c3]
            refine ⟨M ++ L, by rw [List.length_append, m1, hLl, Nat.succ_mul], fun j hj => ?_, fun i hi => ?_⟩
            · by_cases hlt : j < M.length
              · rw [List.getD_eq_getElem?_getD, List.getElem?_append_left hlt, ← List.getD_eq_getElem?_getD]
                exact m2 j hlt
              · rw [List.length_append] at hj
                rw [List.getD_eq_getElem?_getD, List.getElem?_append_right (by omega), ← List.getD_eq_getElem?_getD]
                obtain ⟨q1, q2⟩ := l1.2 (j - M.length) (by omega)
                refine ⟨_, ?_, q1, q2⟩
                rw [← c4 (j - M.length) (by omega)]
                congr 1
                rw [zet]
                congr 1
                omega
            · by_cases hlt : i < k
              · have hmul : i * P.cellsOf e + P.cellsOf e ≤ k * P.cellsOf e := by rw [← Nat.succ_mul]; exact Nat.mul_le_mul_right _ hlt
                rw [List.drop_append_of_le_length (by omega), List.take_append_of_le_length (by rw [List.length_drop]; omega)]
                exact m3 i hlt
              · have : i = k := by omega
                subst this
                rw [← m1, List.drop_left, List.take_of_length_le (by omega)]
                exact l2
        obtain ⟨M, m1, m2, m3⟩ := key len (Nat.le_refl _)
        refine ⟨[.rd M len], .one ?_ rfl, len, M, rfl, m1, by omega, m3⟩
        by_cases hz : M = []
        · subst hz; exact .rd0 _ _ _ h1
        · have hpos : 0 < M.length := List.length_pos_iff.2 hz
          refine .rd M len a cap (fun j => (W.cell? (a.add j)).getD undef) h1 ?_ (fun j hj => ?_) (fun j hj => ?_) (fun j hj => ?_)
          · obtain ⟨u, hu', _⟩ := m2 0 hpos
            have hlt : a.block < W.heap.size := by
              unfold World.cell? at hu'
              rw [addr_add_block] at hu'
              by_cases hb : a.block < W.heap.size
              · exact hb
              · rw [Array.getElem?_eq_none (by omega)] at hu'; simp at hu'
            exact ⟨hlt, .inl trivial, fun id blk o hb => by simp [stOf] at hb⟩
          · obtain ⟨u, hu', _⟩ := m2 j hj
            show W.cell? (a.add j) = _
            rw [hu']; rfl
          · obtain ⟨u, hu', hv, _⟩ := m2 j hj
            rw [hu']; exact hv
          · obtain ⟨u, hu', _, ho⟩ := m2 j hj
            rw [hu']; exact ho
    · rename_i fs hu
      simp only [Bool.and_eq_true, List.all_eq_true, List.contains_eq_mem, decide_eq_true_eq] at hc
      obtain ⟨hf, htl⟩ := hc
      obtain ⟨xs, m, hm, hxe, hlen, hxl, hx⟩ := DataW.trod_struct hu h
      injection hm with hm; subst hm
      rw [hxe] at hK
      unfold Light DataW.weights at hK
      rw [hu] at hK
      simp only at hK
      obtain ⟨L, l1, l2⟩ := zig (P := P) (E := (lawEnv W).bare) (n := n) (cs := cs) fs.toList 0 _ htl hlen.symm (by omega) (fun f hfm => by
        obtain ⟨i, hi, hie⟩ := List.getElem_of_mem hfm
        have := hx i f (by simpa [Array.getElem?_toList] using List.getElem?_eq_some_iff.2 ⟨hi, hie⟩)
        rw [List.getElem?_eq_getElem (by rw [hxl]; simpa using hi)] at this
        exact zfm hS n f.type _ _ (hf f hfm) this (zjh hK (i := i) (by simp [List.getElem?_eq_getElem (show i < fs.toList.length from hi), hie]) (by simp [List.getElem?_eq_getElem (show i < xs.length by rw [hxl]; simpa using hi)])))
      rw [List.drop_zero] at l1
      refine ⟨L, l1, by rw [l1.1, hlen], fun f hfm => ?_⟩
      have := (l2 f hfm).2
      rwa [Nat.sub_zero] at this
    · rename_i am e hu
      simp only [Bool.and_eq_true, List.contains_eq_mem, decide_eq_true_eq] at hc
      obtain ⟨he, hsz⟩ := hc
      obtain ⟨xs, m, hm, hxe, hlen, hxl, hx⟩ := DataW.trod_array hu h
      injection hm with hm; subst hm
      rw [hxe] at hK
      unfold Light DataW.weights at hK
      rw [hu] at hK
      simp only at hK
      have key : ∀ k, k ≤ am → ∃ M : List PV, Tree (lawEnv W).bare M (cs.take (k * P.cellsOf e)) ∧ M.length = k * P.cellsOf e ∧ ∀ i, i < k → Shape P n e ((M.drop (i * P.cellsOf e)).take (P.cellsOf e)) := by
        intro k
        induction k with
        | zero => intro _; exact ⟨[], ⟨by simp, by simp⟩, by simp, by simp⟩
        | succ k ih =>
          intro hk
          obtain ⟨M, m1, m2, m3⟩ := ih (by omega)
          have hel := hx k (by omega)
          rw [List.getElem?_eq_getElem (by omega)] at hel
          obtain ⟨L, l1, l2⟩ := zfm hS n e _ _ he hel (zlw hK (List.mem_map_of_mem (f := (·.1)) (List.getElem_mem (l := xs) (n := k) (by omega))))
          have hkm : (k + 1) * P.cellsOf e ≤ am * P.cellsOf e := Nat.mul_le_mul_right _ hk
          have hLl : L.length = P.cellsOf e := by rw [l1.1, List.length_take, List.length_drop]; rw [Nat.succ_mul] at hkm; omega
          refine ⟨M ++ L, ?_, by rw [List.length_append, m2, hLl, Nat.succ_mul], fun i hi => ?_⟩
          · have := m1.app l1
            rwa [← List.take_add, ← Nat.succ_mul] at this
          · by_cases hlt : i < k
            · have hmul : i * P.cellsOf e + P.cellsOf e ≤ k * P.cellsOf e := by rw [← Nat.succ_mul]; exact Nat.mul_le_mul_right _ hlt
              rw [List.drop_append_of_le_length (by omega), List.take_append_of_le_length (by rw [List.length_drop]; omega)]
              exact m3 i hlt
            · have : i = k := by omega
              subst this
              rw [← m2, List.drop_left, List.take_of_length_le (by omega)]
              exact l2
      obtain ⟨M, m1, m2, m3⟩ := key am (Nat.le_refl _)
      rw [List.take_of_length_le (by omega)] at m1
      exact ⟨M, m1, m2, m3⟩
    · cases hc
theorem zok {S : List TypeId} (hS : closedB P S = true) {sp : Nat → Bool} {held : Bool} {t : TypeId} (ht : t ∈ S) {cs : Array Value} {d : DataW H} {ps : List MemPlace} (h : DataW.Trod enc P W 0 sp held t (.agg cs) d ps) (hK : Light P t d) :
    ∃ fuel L, VR (lawEnv W) (.agg L) (.agg cs) ∧ Shape P fuel t L := by
  obtain ⟨fuel, h⟩ := h
  obtain ⟨L, h1, h2⟩ := zfm hS fuel t _ _ ht h hK
  have hc : (Value.agg cs).cells.toList = cs.toList := rfl
  rw [hc] at h1
  have hlen : cs.size = L.length := by rw [h1.1, Array.length_toList]
  refine ⟨fuel, L, .agg _ _ hlen (fun j hj => ?_) fun j hj => ?_, h2⟩
  · have := (h1.2 j hj).1.of_bare
    simpa [List.getD_eq_getElem?_getD, Array.getD_eq_getD_getElem?] using this
  · have := (h1.2 j hj).2
    simpa [List.getD_eq_getElem?_getD, Array.getD_eq_getD_getElem?] using this
theorem zlv {ts : List TypeId} {ds : List (DataW H)} (h : (DataW.weightsEach P ts ds).all (fun n => decide (n ≤ reachBytes)) = true) {i : Nat} {t : TypeId} {d : DataW H} (h1 : ts[i]? = some t) (h2 : ds[i]? = some d) : Light P t d :=
  zjh (fun n hn => by simpa using List.all_eq_true.1 h n hn) h1 h2
end
end Go.Proofs.YthgldcflcmlgpaaGreatDoorE
end
section
/- What arguments are: lists of words, fractions, rows. -/
set_option linter.unusedVariables false
set_option linter.unusedSimpArgs false
namespace Go.Proofs.YthgldcflcmlgpaaGreatDoorE
open Go.ChangeShapes Go.WideShapes Go.ChangeAt Go.RowKit
set_option maxRecDepth 100000
theorem znx : ∀ {n : Nat} {L : List PV}, Shape Tryz.prog n 22 L → ∃ l, L = [wl l] ∧ wf l ∧ l.length ≤ 35184372088832
  | 0, _, h => h.elim
  | n + 1, L, h => by
    have hu : Tryz.prog.underlying 22 = some (.slice 104) := by rfl
    have hc : Tryz.prog.cellsOf 104 = 1 := by kernel_rfl
    have hb : Tryz.prog.bytesOf 104 = 4 := by kernel_rfl
    unfold Shape at h
    rw [hu] at h
    obtain ⟨len, M, rfl, hM, hlen, hel⟩ := h
    rw [hb] at hlen
    unfold reachBytes at hlen
    simp only [hc, Nat.mul_one] at hM hel
    have key : ∀ k, k ≤ len → ∃ l, M.take k = ws l ∧ wf l ∧ l.length = k := by
      intro k
      induction k with
      | zero => intro _; exact ⟨[], by simp [ws], by intro x hx; simp at hx, rfl⟩
      | succ k ih =>
        intro hk
        obtain ⟨l, h1, h2, h3⟩ := ih (by omega)
        have he := hel k (by omega)
        cases n with
        | zero => exact he.elim
        | succ n =>
          unfold Shape at he
          rw [show Tryz.prog.underlying 104 = some (.int .u32) from rfl] at he
          obtain ⟨x, hx, hw⟩ := he
          have hr : 0 ≤ x ∧ x ≤ 4294967295 := by simpa [Lit.wf, IntKind.min, IntKind.max, IntKind.signed, IntKind.bits] using hw
          refine ⟨l ++ [x.toNat], ?_, ?_, by simp [h3]⟩
          · rw [List.take_add, h1, hx]
            simp only [ws, List.map_append, List.map_cons, List.map_nil]
            rw [w32, Int.toNat_of_nonneg hr.1]
          · intro y hy
            rcases List.mem_append.1 hy with h | h
            · exact h2 y h
            · simp at h; subst h; omega
    obtain ⟨l, h1, h2, h3⟩ := key len (Nat.le_refl _)
    rw [List.take_of_length_le (by omega)] at h1
    exact ⟨l, by rw [wl, h1, h3], h2, by omega⟩
theorem bool_of {P : Program} {t : TypeId} (hu : P.underlying t = some .bool) : ∀ {n : Nat} {L : List PV}, Shape P n t L → ∃ b, L = [.bool b]
  | 0, _, h => h.elim
  | n + 1, L, h => by unfold Shape at h; rw [hu] at h; exact h
theorem list3 {α : Type} {L : List α} {a b c : α} (h : L.length = 3) (h0 : (L.drop 0).take 1 = [a]) (h1 : (L.drop 1).take 1 = [b]) (h2 : (L.drop 2).take 1 = [c]) : L = [a, b, c] := by
  match L, h with
  | [x, y, z], _ => simp at h0 h1 h2; simp [h0, h1, h2]
theorem zkq : ∀ {n : Nat} {L : List PV}, Shape Tryz.prog n 24 L → ∃ a : RF, L = a.cells ∧ a.wfR
  | 0, _, h => h.elim
  | n + 1, L, h => by
    have hu : Tryz.prog.underlying 24 = some (.struct #[{ name := "Neg", type := 4, offset := 0, embedded := false, tag := "", pkgPath := "", byteOffset := 0 }, { name := "N", type := 22, offset := 1, embedded := false, tag := "", pkgPath := "", byteOffset := 8 }, { name := "D", type := 22, offset := 2, embedded := false, tag := "", pkgPath := "", byteOffset := 32 }]) := by rfl
    have c0 : Tryz.prog.cellsOf 24 = 3 := by kernel_rfl
    have c1 : Tryz.prog.cellsOf 4 = 1 := by kernel_rfl
    have c2 : Tryz.prog.cellsOf 22 = 1 := by kernel_rfl
    unfold Shape at h
    rw [hu] at h
    obtain ⟨hl, hf⟩ := h
    have f0 := hf { name := "Neg", type := 4, offset := 0, embedded := false, tag := "", pkgPath := "", byteOffset := 0 } (by simp)
    have f1 := hf { name := "N", type := 22, offset := 1, embedded := false, tag := "", pkgPath := "", byteOffset := 8 } (by simp)
    have f2 := hf { name := "D", type := 22, offset := 2, embedded := false, tag := "", pkgPath := "", byteOffset := 32 } (by simp)
    simp only [c1, c2] at f0 f1 f2
    obtain ⟨b, e0⟩ := bool_of (P := Tryz.prog) rfl f0
    obtain ⟨x, e1, w1, _⟩ := znx f1
    obtain ⟨y, e2, w2, _⟩ := znx f2
    rw [c0] at hl
    exact ⟨⟨b, x, y⟩, list3 hl e0 e1 e2, w1, w2⟩
theorem znn : ∀ {n : Nat} {L : List PV}, Shape Tryz.prog n 25 L → ∃ l : List RF, L = [row l] ∧ (∀ x ∈ l, x.wfR) ∧ l.length ≤ 2513169434843
  | 0, _, h => h.elim
  | n + 1, L, h => by
    have hu : Tryz.prog.underlying 25 = some (.slice 24) := by rfl
    have hc : Tryz.prog.cellsOf 24 = 3 := by kernel_rfl
    have hb : Tryz.prog.bytesOf 24 = 56 := by kernel_rfl
    unfold Shape at h
    rw [hu] at h
    obtain ⟨len, M, rfl, hM, hlen, hel⟩ := h
    rw [hb] at hlen
    unfold reachBytes at hlen
    simp only [hc] at hM hel
    have key : ∀ k, k ≤ len → ∃ l : List RF, M.take (k * 3) = rowC l ∧ (∀ x ∈ l, x.wfR) ∧ l.length = k := by
      intro k
      induction k with
      | zero => intro _; exact ⟨[], by simp [rowC], by intro x hx; simp at hx, rfl⟩
      | succ k ih =>
        intro hk
        obtain ⟨l, h1, h2, h3⟩ := ih (by omega)
        obtain ⟨a, ha, hw⟩ := zkq (hel k (by omega))
        refine ⟨l ++ [a], ?_, ?_, by simp [h3]⟩
        · rw [Nat.succ_mul, List.take_add, h1, ha, zcm]
          simp [rowC]
        · intro y hy
          rcases List.mem_append.1 hy with h | h
          · exact h2 y h
          · simp at h; subst h; exact hw
    obtain ⟨l, h1, h2, h3⟩ := key len (Nat.le_refl _)
    rw [List.take_of_length_le (by omega)] at h1
    exact ⟨l, by rw [row, h1, h3], h2, by omega⟩
end Go.Proofs.YthgldcflcmlgpaaGreatDoorE
end
section
/- What the law's argument is: a span. -/
set_option linter.unusedVariables false
set_option linter.unusedSimpArgs false
namespace Go.Proofs.YthgldcflcmlgpaaGreatDoorE
open Go.ChangeShapes Go.WideShapes Go.ChangeAt Go.RowKit
set_option maxRecDepth 100000
theorem span_of : ∀ {n : Nat} {L : List PV}, Shape Tryz.prog n 27 L → ∃ c : Spn, L = c.cells ∧ c.wfS ∧ c.y0.length ≤ 2513169434843 ∧ c.y1.length ≤ 2513169434843 ∧ c.f0.length ≤ 2513169434843 ∧ c.f1.length ≤ 2513169434843
  | 0, _, h => h.elim
  | n + 1, L, h => by
    have hu : Tryz.prog.underlying 27 = some (.struct #[{ name := "T", type := 24, offset := 0, embedded := false, tag := "", pkgPath := "", byteOffset := 0 },
        { name := "H", type := 24, offset := 3, embedded := false, tag := "", pkgPath := "", byteOffset := 56 },
        { name := "Y0", type := 25, offset := 6, embedded := false, tag := "", pkgPath := "", byteOffset := 112 },
        { name := "Y1", type := 25, offset := 7, embedded := false, tag := "", pkgPath := "", byteOffset := 136 },
        { name := "F0", type := 25, offset := 8, embedded := false, tag := "", pkgPath := "", byteOffset := 160 },
        { name := "F1", type := 25, offset := 9, embedded := false, tag := "", pkgPath := "", byteOffset := 184 }]) := by rfl
    have c0 : Tryz.prog.cellsOf 27 = 10 := by kernel_rfl
    have c1 : Tryz.prog.cellsOf 24 = 3 := by kernel_rfl
    have c2 : Tryz.prog.cellsOf 25 = 1 := by kernel_rfl
    unfold Shape at h
    rw [hu] at h
    obtain ⟨hl, hf⟩ := h
    simp only [List.forall_mem_cons, c1, c2] at hf
    obtain ⟨f0, f1, f2, f3, f4, f5, _⟩ := hf
    obtain ⟨t, e0, w0⟩ := zkq f0
    obtain ⟨h, e1, w1⟩ := zkq f1
    obtain ⟨y0, e2, w2, l2⟩ := znn f2
    obtain ⟨y1, e3, w3, l3⟩ := znn f3
    obtain ⟨z0, e4, w4, l4⟩ := znn f4
    obtain ⟨z1, e5, w5, l5⟩ := znn f5
    rw [c0] at hl
    refine ⟨⟨t, h, y0, y1, z0, z1⟩, ?_, ⟨w0, w1, w2, w3, w4, w5⟩, l2, l3, l4, l5⟩
    match L, hl with
    | [a, b, c, d, e, f, g, i, j, k], _ =>
      simp [RF.cells] at e0 e1 e2 e3 e4 e5
      simp [Spn.cells, e0, e1, e2, e3, e4, e5]
end Go.Proofs.YthgldcflcmlgpaaGreatDoorE
end
section
/- The law SpanCubics, of what its arguments are. -/
set_option linter.unusedVariables false
set_option linter.unusedSimpArgs false
namespace Go.Proofs.YthgldcflcmlgpaaGreatDoorE
open Go.ChangeShapes Go.WideShapes Go.ChangeAt Go.RowKit
theorem spanCubics_of {n0 n1 : Nat} {L0 L1 : List PV} (h0 : Shape Tryz.prog n0 27 L0) (h1 : Shape Tryz.prog n1 24 L1) : CallOk Tryz.prog 3 [.agg L0, .agg L1] [] (.bool true) [] := by
  obtain ⟨c, rfl, hw, l0, l1, l2, l3⟩ := span_of h0
  obtain ⟨s, rfl, hs⟩ := zkq h1
  exact lawSpanCubics c s hw hs l0 l1 l2 l3
end Go.Proofs.YthgldcflcmlgpaaGreatDoorE
end
