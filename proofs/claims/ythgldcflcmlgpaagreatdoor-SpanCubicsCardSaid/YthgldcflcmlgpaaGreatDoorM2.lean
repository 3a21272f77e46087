import Derived.Test.YthgldcflcmlgpaaGreatDoorM0
import Derived.Test.YthgldcflcmlgpaaGreatDoorM1
section
/- The difference of two naturals. -/
set_option linter.unusedVariables false
set_option linter.unusedSimpArgs false
namespace Go.Proofs.YthgldcflcmlgpaaGreatDoorE
open Go.RowKit
set_option maxRecDepth 100000
attribute [local simp] List.getElem?_cons_zero List.getElem?_cons_succ List.getElem?_nil wrap_i64 stOf st0 effF effC evalV evalL zfd zcr pv_t pv_c pv_g pv_f ofConst binV binI lenV foldV mx2 mn2 unV convV extractV idxV indexV fieldAddrV fieldV partV sliceV boundsV loadL live storeE appendE srcV litE makeE IntKind.bits copyE boxE allocE flatParts flatCs flatC allParts cellsOf solid leafB fillL frzL buildV fillP placeS eqFl eqCell St.eff St.put wrs callE renP renA renC renI nid newL renB noEff endK endR resA resL resV expP expA expC expN expL expBs expB idx thenQ blockQ wantK if_pos if_neg
attribute [local simp] wrap_u32 zas
def subL : List Nat → List Nat → Nat → List Nat
  | [], _, _ => []
  | x :: r, b, w => (x + 4294967296 - b.headD 0 - w) % 4294967296 :: subL r b.tail (if x < b.headD 0 + w then 1 else 0)
def subW : List Nat → List Nat → Nat → Nat
  | [], _, w => w
  | x :: r, b, w => subW r b.tail (if x < b.headD 0 + w then 1 else 0)
theorem zew : ∀ (a b : List Nat) (w : Nat), (subL a b w).length = a.length
  | [], _, _ => rfl
  | x :: r, b, w => by simp [subL, zew r]
theorem zge : ∀ (a b : List Nat) (w : Nat), wf (subL a b w)
  | [], _, _ => zfk
  | x :: r, b, w => wf_cons.2 ⟨Nat.mod_lt _ (by decide), zge r _ _⟩
theorem zne : ∀ (a b : List Nat) (w : Nat), wf a → wf b → w < 2 → b.length ≤ a.length → val a + 4294967296 ^ a.length * subW a b w = val (subL a b w) + val b + w
  | [], b, w, _, _, _, h => by
    have : b = [] := List.eq_nil_of_length_eq_zero (by simpa using h)
    subst this
    simp [subL, subW, val]
  | x :: r, b, w, ha, hb, hw, h => by
    obtain ⟨h1, h2⟩ := wf_cons.1 ha
    have hh : b.headD 0 < 4294967296 := by
      cases b with
      | nil => simp
      | cons y s => exact (wf_cons.1 hb).1
    have ht : wf b.tail := by
      cases b with
      | nil => exact zfk
      | cons y s => exact (wf_cons.1 hb).2
    have hvb : val b = b.headD 0 + 4294967296 * val b.tail := by
      cases b with
      | nil => simp [val]
      | cons y s => simp [val]
    have htl : b.tail.length ≤ r.length := by simp at h ⊢; omega
    have ih := zne r b.tail (if x < b.headD 0 + w then 1 else 0) h2 ht (by split <;> omega) htl
    simp only [subL, subW, val, List.length_cons, Nat.pow_succ]
    rw [hvb]
    generalize b.headD 0 = y at *
    generalize val b.tail = vb at *
    generalize val (subL r b.tail (if x < y + w then 1 else 0)) = vs at *
    generalize hW : 4294967296 ^ r.length * subW r b.tail (if x < y + w then 1 else 0) = z at *
    have e : 4294967296 ^ r.length * 4294967296 * subW r b.tail (if x < y + w then 1 else 0) = 4294967296 * z := by
      rw [← hW, Nat.mul_comm (4294967296 ^ r.length) 4294967296, Nat.mul_assoc]
    rw [e]
    split at ih <;> omega
theorem zoy {a b : List Nat} (ha : wf a) (hb : wf b) (hle : b.length ≤ a.length) (hv : val b ≤ val a) : val (subL a b 0) = val a - val b := by
  have h1 := zne a b 0 ha hb (by omega) hle
  have h2 := zax (zge a b 0)
  rw [zew] at h2
  cases hw : subW a b 0 with
  | zero => rw [hw] at h1; omega
  | succ k =>
    rw [hw, Nat.mul_succ] at h1
    omega
theorem zbk {X : List Nat} {i : Nat} (h : i < X.length) : (ws X)[i]? = some (.int .u32 ((X.getD i 0 : Nat) : Int)) := by
  simp [ws, w32, h, List.getD_eq_getElem?_getD]
theorem zbm {X : List Nat} {i : Nat} {v : Int} {w : Nat} (h : i < X.length) (hv : v = (w : Int)) : (ws X).take i ++ .int .u32 v :: (ws X).drop (i + 1) = ws (X.set i w) := by
  subst hv
  rw [List.set_eq_take_append_cons_drop, if_pos h]
  simp [ws, w32, List.map_take, List.map_drop]
theorem zaz {X : List Nat} {i : Nat} (h : i < X.length) : X.drop i = X.getD i 0 :: X.drop (i + 1) := by
  rw [List.drop_eq_getElem_cons h]; simp [List.getD_eq_getElem?_getD, h]
theorem zbb (X : List Nat) (i : Nat) : (X.drop i).headD 0 = X.getD i 0 := by
  simp [List.getD_eq_getElem?_getD, List.headD_eq_head?_getD]
theorem zbl {X : List Nat} (h : wf X) (i : Nat) : X.getD i 0 < 4294967296 := by
  by_cases hi : i < X.length
  · have := h _ (List.getElem_mem hi); simpa [List.getD_eq_getElem?_getD, hi] using this
  · simp [List.getD_eq_getElem?_getD, List.getElem?_eq_none (Nat.le_of_not_lt hi)]
theorem zgk {pre D : List Nat} {i a v : Nat} (h : pre.length = i) : (pre ++ a :: D).set i v = (pre ++ [v]) ++ D := by
  subst h; simp
theorem zbc (l : List Nat) : (ws l).take l.length = ws l := List.take_of_length_le (by simp)
theorem zmg (l : List Nat) : wl l = .rd (ws l) l.length := rfl
theorem zrd (a b : List Nat) (ha : wf a) (hb : wf b) (hla : a.length ≤ 1099511627775) (hlb : b.length ≤ 1099511627775) :
    CallOk Tryz.prog 164 [wl a, wl b] [] (.tup [wl (nw (val a - val b)), .bool (decide (val b ≤ val a))]) [] := by
  have hla' := zcg a
  have hlb' := zcg b
  have c1 := zcj a (by omega)
  have c2 := zcj b (by omega)
  rw [zba ha] at c1 hla'
  rw [zba hb] at c2 hlb'
  have hlt := @zfu (val a) (val b)
  have wA := zaq (val a)
  have wB := zaq (val b)
  have vA := zam (val a)
  have vB := zam (val b)
  rw [← vA, ← vB]
  rw [← vA, ← vB] at hlt
  simp only [zam] at hlt
  generalize nw (val a) = A at *
  generalize nw (val b) = B at *
  have c3 := znu A B wA wB (by omega) (by omega)
  refine CallOk.of_wl Tryz.func164 rfl rfl rfl (Nat.le_of_ble_eq_true rfl) ?_
  (repeat (first | with_reducible (first | refine WL.seq ?_ | refine WL.skip ?_ | refine WL.label ?_ | refine WL.block ?_ | refine WL.scope ?_ | refine WL.nilS ?_ | refine WL.reS ?_ | refine WL.exS ?_ | refine WL.nilB ?_ | refine WL.nilT ?_ | refine WL.exit ?_ | refine WL.ret ?_ | refine WL.exT ?_ | refine WL.exB ?_ | refine WL.exN rfl ?_ | refine WL.reT ?_ | refine WL.reB ?_) | ((first | refine WL.reg rfl ?_ | refine WL.regT zai rfl ?_); (conv => { arg 3; simp [prep, prep1] }); (repeat (first | (refine zae ?_ ?_; (focus (simp; done)); (conv => { arg 4; simp (disch := omega) [wl] }); (first | (first | refine zaa ?_ | (refine zac ?_; (conv => { arg 5; simp }))) | ((first | refine zal true rfl rfl ⟨_, Tryz.func154, rfl, rfl⟩ ?_ | refine zal true rfl rfl ⟨_, Tryz.func140, rfl, rfl⟩ ?_); (conv => { arg 6; simp (disch := omega) [wl] }); (first | refine zaf (c1) rfl ?_ | refine zaf (c2) rfl ?_ | refine zaf (c3) rfl ?_); (conv => { arg 5; simp (disch := omega) [wl] })))) | (refine zab rfl ?_ ?_; (focus (simp; done))))); with_reducible refine zad ?_; (first | refine ⟨rfl, ?_⟩ | refine ⟨by simp [quietB], by simp [quietU], ?_⟩ | skip)) | (refine WL.cond ?_; (conv => { arg 1; simp (disch := omega) [wl] }); with_reducible (first | refine zaj ?_ | refine zak ?_ | refine zag (by omega) ?_ | refine zah (by omega) ?_))))
  refine WL.cond ?_; (conv => { arg 1; simp (disch := omega)  }); (first | refine zop ?_ ?_ | refine zqk ?_ ?_)
  · intro h
    have h : ¬ val B ≤ val A := by
      unfold cmpI at h; intro h'
      rw [if_neg (by omega)] at h
      split at h <;> simp at h
    (repeat (first | with_reducible (first | refine WL.seq ?_ | refine WL.skip ?_ | refine WL.label ?_ | refine WL.block ?_ | refine WL.scope ?_ | refine WL.nilS ?_ | refine WL.reS ?_ | refine WL.exS ?_ | refine WL.nilB ?_ | refine WL.nilT ?_ | refine WL.exit ?_ | refine WL.ret ?_ | refine WL.exT ?_ | refine WL.exB ?_ | refine WL.exN rfl ?_ | refine WL.reT ?_ | refine WL.reB ?_) | ((first | refine WL.reg rfl ?_ | refine WL.regT zai rfl ?_); (conv => { arg 3; simp [prep, prep1] }); (repeat (first | (refine zae ?_ ?_; (focus (simp; done)); (conv => { arg 4; simp (disch := omega)  }); (first | (first | refine zaa ?_ | (refine zac ?_; (conv => { arg 5; simp }))))) | (refine zab rfl ?_ ?_; (focus (simp; done))))); with_reducible refine zad ?_; (first | refine ⟨rfl, ?_⟩ | refine ⟨by simp [quietB], by simp [quietU], ?_⟩ | skip)) | (refine WL.cond ?_; (conv => { arg 1; simp (disch := omega)  }); with_reducible (first | refine zaj ?_ | refine zak ?_ | refine zag (by omega) ?_ | refine zah (by omega) ?_))))
    refine ⟨[], ?_⟩
    have e : val A - val B = 0 := by omega
    simp (disch := omega) [h, e, zaw, wl, ws]
  intro h
  have h : val B ≤ val A := by
    unfold cmpI at h
    by_cases h' : val A < val B
    · rw [if_pos h'] at h; simp at h
    · omega
  have hle : B.length ≤ A.length := by
    by_cases h' : A.length < B.length
    · have := hlt h'; omega
    · omega
  (repeat (first | with_reducible (first | refine WL.seq ?_ | refine WL.skip ?_ | refine WL.label ?_ | refine WL.block ?_ | refine WL.scope ?_ | refine WL.nilS ?_ | refine WL.reS ?_ | refine WL.exS ?_ | refine WL.nilB ?_ | refine WL.nilT ?_ | refine WL.exit ?_ | refine WL.ret ?_ | refine WL.exT ?_ | refine WL.exB ?_ | refine WL.exN rfl ?_ | refine WL.reT ?_ | refine WL.reB ?_) | ((first | refine WL.reg rfl ?_ | refine WL.regT zai rfl ?_); (conv => { arg 3; simp [prep, prep1] }); (repeat (first | (refine zae ?_ ?_; (focus (simp; done)); (conv => { arg 4; simp (disch := omega) [wl] }); (first | (first | refine zaa ?_ | (refine zac ?_; (conv => { arg 5; simp }))) | (refine zal true rfl rfl ⟨_, Tryz.func166, rfl, rfl⟩ ?_; (conv => { arg 6; simp (disch := omega) [wl] }); refine zaf (zhz A 0 (by omega) (by omega)) rfl ?_; (conv => { arg 5; simp (disch := omega) [wl] })))) | (refine zab rfl ?_ ?_; (focus (simp; done))))); with_reducible refine zad ?_; (first | refine ⟨rfl, ?_⟩ | refine ⟨by simp [quietB], by simp [quietU], ?_⟩ | skip)) | (refine WL.cond ?_; (conv => { arg 1; simp (disch := omega) [wl] }); with_reducible (first | refine zaj ?_ | refine zak ?_ | refine zag (by omega) ?_ | refine zah (by omega) ?_))))
  refine WL.loop (fun m s => ∃ (i c : Nat) (pre : List Nat), m = A.length - i ∧ i ≤ A.length ∧ s.frame 0 = wl A ∧ s.frame 1 = wl B ∧ s.frame 6 = .sl ⟨19, 0, 0⟩ 0 0 A.length 1 ∧ s.frame 7 = w32 c ∧ s.frame 21 = .int .i64 A.length ∧ s.frame 22 = .int .i64 i ∧
      s.store ⟨19, 0, 0⟩ = some ⟨0, true, true, ws (pre ++ A.drop i)⟩ ∧ pre.length = i ∧ c < 2 ∧ pre ++ subL (A.drop i) (B.drop i) c = subL A B 0) A.length ?_ ?_
  · exact ⟨0, 0, [], by omega, by omega, by simp [wl], by simp [wl], by simp, by simp [w32], by simp, by simp, by simp, rfl, by omega, by simp⟩
  rintro m ⟨f, σ, g⟩ ⟨i, c, pre, rfl, hi, h0, h1, h6, h7, h21, h22, hst, hpre, hc, hT⟩
  simp only at h0 h1 h6 h7 h21 h22 hst
  by_cases hi' : i < A.length
  · have hx := zbl wA i
    have hy := zbl wB i
    have hadd : subL (A.drop i) (B.drop i) c = (A.getD i 0 + 4294967296 - B.getD i 0 - c) % 4294967296 :: subL (A.drop (i + 1)) (B.drop (i + 1)) (if A.getD i 0 < B.getD i 0 + c then 1 else 0) := by
      rw [zaz hi']; simp only [subL, List.tail_drop, zbb]
    have hcall := zms (A.getD i 0) (B.getD i 0) c hx hy hc
    have hlen : i < (pre ++ A.drop i).length := by simp; omega
    have hset : (pre ++ A.drop i).set i ((A.getD i 0 + 4294967296 - B.getD i 0 - c) % 4294967296) = pre ++ [(A.getD i 0 + 4294967296 - B.getD i 0 - c) % 4294967296] ++ A.drop (i + 1) := by
      rw [zaz hi', zgk hpre]
    have hst1 := zbm (v := (((A.getD i 0 + 4294967296 - B.getD i 0 - c) % 4294967296 : Nat) : Int)) hlen rfl
    rw [hset] at hst1
    have hc' : (if A.getD i 0 < B.getD i 0 + c then 1 else 0 : Nat) < 2 := by split <;> omega
    have hB : i < B.length → (ws B)[i]? = some (w32 (B.getD i 0)) := fun h => zbk h
    have hB' : ¬ i < B.length → B.getD i 0 = 0 := fun h => by simp [List.getD_eq_getElem?_getD, List.getElem?_eq_none (Nat.le_of_not_lt h)]
    have hA := zbk hi'
    generalize (A.getD i 0 + 4294967296 - B.getD i 0 - c) % 4294967296 = v at *
    generalize (if A.getD i 0 < B.getD i 0 + c then 1 else 0 : Nat) = c' at *
    generalize A.getD i 0 = x at *
    generalize B.getD i 0 = y at *
    (repeat (first | with_reducible (first | refine WL.seq ?_ | refine WL.skip ?_ | refine WL.label ?_ | refine WL.block ?_ | refine WL.scope ?_ | refine WL.nilS ?_ | refine WL.reS ?_ | refine WL.exS ?_ | refine WL.nilB ?_ | refine WL.nilT ?_ | refine WL.exit ?_ | refine WL.ret ?_ | refine WL.exT ?_ | refine WL.exB ?_ | refine WL.exN rfl ?_ | refine WL.reT ?_ | refine WL.reB ?_) | ((first | refine WL.reg rfl ?_ | refine WL.regT zai rfl ?_); (conv => { arg 3; simp [prep, prep1] }); (repeat (first | (refine zae ?_ ?_; (focus (simp; done)); (conv => { arg 4; simp (disch := omega) [h21, h22, hi', h1, wl] }); (first | (first | refine zaa ?_ | (refine zac ?_; (conv => { arg 5; simp }))))) | (refine zab rfl ?_ ?_; (focus (simp; done))))); with_reducible refine zad ?_; (first | refine ⟨rfl, ?_⟩ | refine ⟨by simp [quietB], by simp [quietU], ?_⟩ | skip)) | (refine WL.cond ?_; (conv => { arg 1; simp (disch := omega) [h21, h22, hi', h1, wl] }); with_reducible (first | refine zaj ?_ | refine zak ?_ | refine zag (by omega) ?_ | refine zah (by omega) ?_))))
    refine WL.mid (fun s => s.frame 0 = wl A ∧ s.frame 6 = .sl ⟨19, 0, 0⟩ 0 0 A.length 1 ∧ s.frame 1 = wl B ∧ s.frame 7 = w32 c ∧ s.frame 8 = .int .i64 i ∧ s.frame 9 = w32 y ∧ s.frame 21 = .int .i64 A.length ∧ s.frame 22 = .int .i64 i ∧
      s.store ⟨19, 0, 0⟩ = some ⟨0, true, true, ws (pre ++ A.drop i)⟩) ?_ ?_
    · refine WL.cond ?_; (conv => { arg 1; simp (disch := omega)  }); (first | refine zop ?_ ?_ | refine zqk ?_ ?_)
      · intro hb
        have hB := hB (by simpa using hb)
        (repeat (first | with_reducible (first | refine WL.seq ?_ | refine WL.skip ?_ | refine WL.label ?_ | refine WL.block ?_ | refine WL.scope ?_ | refine WL.nilS ?_ | refine WL.reS ?_ | refine WL.exS ?_ | refine WL.nilB ?_ | refine WL.nilT ?_ | refine WL.exit ?_ | refine WL.ret ?_ | refine WL.exT ?_ | refine WL.exB ?_ | refine WL.exN rfl ?_ | refine WL.reT ?_ | refine WL.reB ?_) | ((first | refine WL.reg rfl ?_ | refine WL.regT zai rfl ?_); (conv => { arg 3; simp [prep, prep1] }); (repeat (first | (refine zae ?_ ?_; (focus (simp; done)); (conv => { arg 4; simp (disch := omega) [h1, wl, hB] }); (first | (first | refine zaa ?_ | (refine zac ?_; (conv => { arg 5; simp }))))) | (refine zab rfl ?_ ?_; (focus (simp; done))))); with_reducible refine zad ?_; (first | refine ⟨rfl, ?_⟩ | refine ⟨by simp [quietB], by simp [quietU], ?_⟩ | skip)) | (refine WL.cond ?_; (conv => { arg 1; simp (disch := omega) [h1, wl, hB] }); with_reducible (first | refine zaj ?_ | refine zak ?_ | refine zag (by omega) ?_ | refine zah (by omega) ?_))))
        simp [h0, h6, h7, h21, h22, hst, wl, h1]
      · intro hb
        have hB := hB' (by simpa using hb)
        (repeat (first | with_reducible (first | refine WL.seq ?_ | refine WL.skip ?_ | refine WL.label ?_ | refine WL.block ?_ | refine WL.scope ?_ | refine WL.nilS ?_ | refine WL.reS ?_ | refine WL.exS ?_ | refine WL.nilB ?_ | refine WL.nilT ?_ | refine WL.exit ?_ | refine WL.ret ?_ | refine WL.exT ?_ | refine WL.exB ?_ | refine WL.exN rfl ?_ | refine WL.reT ?_ | refine WL.reB ?_) | ((first | refine WL.reg rfl ?_ | refine WL.regT zai rfl ?_); (conv => { arg 3; simp [prep, prep1] }); (repeat (first | (refine zae ?_ ?_; (focus (simp; done)); (conv => { arg 4; simp (disch := omega)  }); (first | (first | refine zaa ?_ | (refine zac ?_; (conv => { arg 5; simp }))))) | (refine zab rfl ?_ ?_; (focus (simp; done))))); with_reducible refine zad ?_; (first | refine ⟨rfl, ?_⟩ | refine ⟨by simp [quietB], by simp [quietU], ?_⟩ | skip)) | (refine WL.cond ?_; (conv => { arg 1; simp (disch := omega)  }); with_reducible (first | refine zaj ?_ | refine zak ?_ | refine zag (by omega) ?_ | refine zah (by omega) ?_))))
        simp [h0, h6, h7, h21, h22, hst, wl, h1, hB, w32]
    clear h0 h1 h6 h7 h21 h22 hst
    rintro ⟨f2, σ2, g2⟩ ⟨h0, h6, h1, h7, h8, h9, h21, h22, hst⟩
    simp only at h0 h6 h1 h7 h8 h9 h21 h22 hst
    (repeat (first | with_reducible (first | refine WL.seq ?_ | refine WL.skip ?_ | refine WL.label ?_ | refine WL.block ?_ | refine WL.scope ?_ | refine WL.nilS ?_ | refine WL.reS ?_ | refine WL.exS ?_ | refine WL.nilB ?_ | refine WL.nilT ?_ | refine WL.exit ?_ | refine WL.ret ?_ | refine WL.exT ?_ | refine WL.exB ?_ | refine WL.exN rfl ?_ | refine WL.reT ?_ | refine WL.reB ?_) | ((first | refine WL.reg rfl ?_ | refine WL.regT zai rfl ?_); (conv => { arg 3; simp [prep, prep1] }); (repeat (first | (refine zae ?_ ?_; (focus (simp; done)); (conv => { arg 4; simp (disch := omega) [h0, h6, h7, h8, h9, h22, wl, hA, w32, hst, hst1] }); (first | (first | refine zaa ?_ | (refine zac ?_; (conv => { arg 5; simp }))) | (refine zal true rfl rfl ⟨_, Tryz.func196, rfl, rfl⟩ ?_; (conv => { arg 6; simp (disch := omega) [h0, h6, h7, h8, h9, h22, wl, hA, w32, hst, hst1] }); refine zaf (hcall) rfl ?_; (conv => { arg 5; simp (disch := omega) [h0, h6, h7, h8, h9, h22, wl, hA, w32, hst, hst1] })))) | (refine zab rfl ?_ ?_; (focus (simp; done))))); with_reducible refine zad ?_; (first | refine ⟨rfl, ?_⟩ | refine ⟨by simp [quietB], by simp [quietU], ?_⟩ | skip)) | (refine WL.cond ?_; (conv => { arg 1; simp (disch := omega) [h0, h6, h7, h8, h9, h22, wl, hA, w32, hst, hst1] }); with_reducible (first | refine zaj ?_ | refine zak ?_ | refine zag (by omega) ?_ | refine zah (by omega) ?_))))
    exact ⟨A.length - (i + 1), by omega, i + 1, c', pre ++ [v], rfl, by omega, by simp [h0], by simp [h1], by simp [h6], by simp [w32], by simp [h21], by simp, by simp, by simp [hpre], hc', by rw [← hT, hadd]; simp⟩
  · have hiA : i = A.length := by omega
    subst hiA
    have hd : A.drop A.length = [] := List.drop_of_length_le (Nat.le_refl _)
    rw [hd, List.append_nil] at hst
    have hp : pre = subL A B 0 := by rw [← hT, hd]; simp [subL]
    have hw := zge A B 0
    have hl := zew A B 0
    rw [← hp] at hw hl
    have hv := zoy wA wB hle h
    rw [← hp] at hv
    have ht := zcj pre (by omega)
    rw [zba hw, hv] at ht
    rw [← hpre] at h6
    (repeat (first | with_reducible (first | refine WL.seq ?_ | refine WL.skip ?_ | refine WL.label ?_ | refine WL.block ?_ | refine WL.scope ?_ | refine WL.nilS ?_ | refine WL.reS ?_ | refine WL.exS ?_ | refine WL.nilB ?_ | refine WL.nilT ?_ | refine WL.exit ?_ | refine WL.ret ?_ | refine WL.exT ?_ | refine WL.exB ?_ | refine WL.exN rfl ?_ | refine WL.reT ?_ | refine WL.reB ?_) | ((first | refine WL.reg rfl ?_ | refine WL.regT zai rfl ?_); (conv => { arg 3; simp [prep, prep1] }); (repeat (first | (refine zae ?_ ?_; (focus (simp; done)); (conv => { arg 4; simp (disch := omega) [h0, h1, h6, h21, h22, hst, wl, zbc] }); (first | (first | refine zaa ?_ | (refine zac ?_; (conv => { arg 5; simp }))) | (refine zal true rfl rfl ⟨_, Tryz.func154, rfl, rfl⟩ ?_; (conv => { arg 6; simp (disch := omega) [h0, h1, h6, h21, h22, hst, wl, zbc] }); refine zaf (ht) rfl ?_; (conv => { arg 5; simp (disch := omega) [h0, h1, h6, h21, h22, hst, wl, zbc] })))) | (refine zab rfl ?_ ?_; (focus (simp; done))))); with_reducible refine zad ?_; (first | refine ⟨rfl, ?_⟩ | refine ⟨by simp [quietB], by simp [quietU], ?_⟩ | skip)) | (refine WL.cond ?_; (conv => { arg 1; simp (disch := omega) [h0, h1, h6, h21, h22, hst, wl, zbc] }); with_reducible (first | refine zaj ?_ | refine zak ?_ | refine zag (by omega) ?_ | refine zah (by omega) ?_))))
    refine ⟨[], ?_⟩
    simp (disch := omega) [wl, h]
theorem zdx (w n : Nat) (h : n < 2 ^ w) : (BitVec.ofInt w (n : Int)).toNat = n := by
  simp [Nat.mod_eq_of_lt h]
theorem or_u64 {x y : Int} (a b i : Nat) (hx : x = ((2 ^ i * a : Nat) : Int)) (hy : y = (b : Int)) (hb : b < 2 ^ i) (h : 2 ^ i * a + b < 18446744073709551616) : bitsOf .or .u64 x y = ((2 ^ i * a + b : Nat) : Int) := by
  subst hx hy
  have e : bitsOf .or .u64 ((2 ^ i * a : Nat) : Int) (b : Int) = IntKind.u64.wrap (((BitVec.ofInt 64 ((2 ^ i * a : Nat) : Int) ||| BitVec.ofInt 64 (b : Int)).toNat : Nat) : Int) := rfl
  rw [e, BitVec.toNat_or, zdx _ _ (by omega), zdx _ _ (by omega), ← Nat.two_pow_add_eq_or_of_lt hb, zas (by omega)]
theorem or_u64' {x y : Int} (a b i : Nat) (hx : x = ((2 ^ i * a : Nat) : Int)) (hy : y = (b : Int)) (hb : b < 2 ^ i) (h : 2 ^ i * a + b < 18446744073709551616) : bitsOf .or .u64 y x = ((2 ^ i * a + b : Nat) : Int) := by
  subst hx hy
  have e : bitsOf .or .u64 (b : Int) ((2 ^ i * a : Nat) : Int) = IntKind.u64.wrap (((BitVec.ofInt 64 (b : Int) ||| BitVec.ofInt 64 ((2 ^ i * a : Nat) : Int)).toNat : Nat) : Int) := rfl
  rw [e, BitVec.toNat_or, zdx _ _ (by omega), zdx _ _ (by omega), Nat.or_comm, ← Nat.two_pow_add_eq_or_of_lt hb, zas (by omega)]
theorem zar {a b : Int} (h : 0 ≤ b) : a.fdiv b = a / b := Int.fdiv_eq_ediv_of_nonneg _ h
theorem beqI (a b : Int) : (a == b) = decide (a = b) := Eq.trans rfl (Eq.refl _)
theorem bneI (a b : Int) : (a != b) = !decide (a = b) := Eq.trans rfl (Eq.refl _)
attribute [local simp] beqI bneI w32 wl
theorem natGap (a b : List Nat) (ha : wf a) (hb : wf b) (hla : a.length ≤ 1099511627775) (hlb : b.length ≤ 1099511627775) :
    CallOk Tryz.prog 124 [wl a, wl b] [] (.tup [wl (nw ((val a - val b) + (val b - val a))), .int .i64 (cmpI (val a) (val b))]) [] := by
  have c1 := znu a b ha hb (by omega) (by omega)
  by_cases h : val a < val b
  · have c2 := zrd b a hb ha hlb hla
    have e : val a - val b = 0 := by omega
    have hc : cmpI (val a) (val b) = -1 := by simp [cmpI, h]
    rw [hc] at c1 ⊢
    rw [e, Nat.zero_add]
    refine CallOk.of_wl Tryz.func124 rfl rfl rfl (Nat.le_of_ble_eq_true rfl) ?_
    (repeat (first | with_reducible (first | refine WL.seq ?_ | refine WL.skip ?_ | refine WL.label ?_ | refine WL.block ?_ | refine WL.scope ?_ | refine WL.nilS ?_ | refine WL.reS ?_ | refine WL.exS ?_ | refine WL.nilB ?_ | refine WL.nilT ?_ | refine WL.exit ?_ | refine WL.ret ?_ | refine WL.exT ?_ | refine WL.exB ?_ | refine WL.exN rfl ?_ | refine WL.reT ?_ | refine WL.reB ?_) | ((first | refine WL.reg rfl ?_ | refine WL.regT zai rfl ?_); (conv => { arg 3; simp [prep, prep1] }); (repeat (first | (refine zae ?_ ?_; (focus (simp; done)); (conv => { arg 4; simp (disch := omega) [wl] }); (first | (first | refine zaa ?_ | (refine zac ?_; (conv => { arg 5; simp }))) | ((first | refine zal true rfl rfl ⟨_, Tryz.func140, rfl, rfl⟩ ?_ | refine zal true rfl rfl ⟨_, Tryz.func164, rfl, rfl⟩ ?_); (conv => { arg 6; simp (disch := omega) [wl] }); (first | refine zaf (c1) rfl ?_ | refine zaf (c2) rfl ?_); (conv => { arg 5; simp (disch := omega) [wl] })))) | (refine zab rfl ?_ ?_; (focus (simp; done))))); with_reducible refine zad ?_; (first | refine ⟨rfl, ?_⟩ | refine ⟨by simp [quietB], by simp [quietU], ?_⟩ | skip)) | (refine WL.cond ?_; (conv => { arg 1; simp (disch := omega) [wl] }); with_reducible (first | refine zaj ?_ | refine zak ?_ | refine zag (by omega) ?_ | refine zah (by omega) ?_))))
    refine ⟨[], ?_⟩
    simp (disch := omega) [wl]
  · have c2 := zrd a b ha hb hla hlb
    have e : val b - val a = 0 := by omega
    have hc : ¬ cmpI (val a) (val b) < 0 := by unfold cmpI; rw [if_neg h]; split <;> simp
    rw [e, Nat.add_zero]
    refine CallOk.of_wl Tryz.func124 rfl rfl rfl (Nat.le_of_ble_eq_true rfl) ?_
    (repeat (first | with_reducible (first | refine WL.seq ?_ | refine WL.skip ?_ | refine WL.label ?_ | refine WL.block ?_ | refine WL.scope ?_ | refine WL.nilS ?_ | refine WL.reS ?_ | refine WL.exS ?_ | refine WL.nilB ?_ | refine WL.nilT ?_ | refine WL.exit ?_ | refine WL.ret ?_ | refine WL.exT ?_ | refine WL.exB ?_ | refine WL.exN rfl ?_ | refine WL.reT ?_ | refine WL.reB ?_) | ((first | refine WL.reg rfl ?_ | refine WL.regT zai rfl ?_); (conv => { arg 3; simp [prep, prep1] }); (repeat (first | (refine zae ?_ ?_; (focus (simp; done)); (conv => { arg 4; simp (disch := omega) [wl, hc] }); (first | (first | refine zaa ?_ | (refine zac ?_; (conv => { arg 5; simp }))) | ((first | refine zal true rfl rfl ⟨_, Tryz.func140, rfl, rfl⟩ ?_ | refine zal true rfl rfl ⟨_, Tryz.func164, rfl, rfl⟩ ?_); (conv => { arg 6; simp (disch := omega) [wl, hc] }); (first | refine zaf (c1) rfl ?_ | refine zaf (c2) rfl ?_); (conv => { arg 5; simp (disch := omega) [wl, hc] })))) | (refine zab rfl ?_ ?_; (focus (simp; done))))); with_reducible refine zad ?_; (first | refine ⟨rfl, ?_⟩ | refine ⟨by simp [quietB], by simp [quietU], ?_⟩ | skip)) | (refine WL.cond ?_; (conv => { arg 1; simp (disch := omega) [wl, hc] }); with_reducible (first | refine zaj ?_ | refine zak ?_ | refine zag (by omega) ?_ | refine zah (by omega) ?_))))
    refine ⟨[], ?_⟩
    simp (disch := omega) [wl]
theorem zpv (hi lo y : Nat) (hy : y < 4294967296) (hl : lo < 4294967296) (hh : hi < y) :
    CallOk Tryz.prog 209 [w32 hi, w32 lo, w32 y] [] (.tup [w32 ((hi * 4294967296 + lo) / y), w32 ((hi * 4294967296 + lo) % y), .bool true]) [] := by
  have e0 := or_u64 (x := (hi : Int) * 4294967296) (y := (lo : Int)) hi lo 32 (by omega) rfl (by omega) (by omega)
  have hq : (hi * 4294967296 + lo) / y < 4294967296 := Nat.div_lt_of_lt_mul (by
    have : (hi + 1) * 4294967296 ≤ y * 4294967296 := Nat.mul_le_mul_right _ hh
    omega)
  have hr : (hi * 4294967296 + lo) % y < y := Nat.mod_lt _ (by omega)
  have e1 : ((2 ^ 32 * hi + lo : Nat) : Int).tdiv (y : Int) = (((hi * 4294967296 + lo) / y : Nat) : Int) := by
    rw [show 2 ^ 32 * hi + lo = hi * 4294967296 + lo by omega]; rfl
  have e2 : ((2 ^ 32 * hi + lo : Nat) : Int).tmod (y : Int) = (((hi * 4294967296 + lo) % y : Nat) : Int) := by
    rw [show 2 ^ 32 * hi + lo = hi * 4294967296 + lo by omega]; rfl
  have hy0 : ¬ ((y : Int) = 0) := by omega
  generalize (hi * 4294967296 + lo) / y = q at *
  generalize (hi * 4294967296 + lo) % y = r at *
  generalize ((2 ^ 32 * hi + lo : Nat) : Int) = n at *
  refine CallOk.of_wl Tryz.func209 rfl rfl rfl (Nat.le_of_ble_eq_true rfl) ?_
  (repeat (first | with_reducible (first | refine WL.seq ?_ | refine WL.skip ?_ | refine WL.label ?_ | refine WL.block ?_ | refine WL.scope ?_ | refine WL.nilS ?_ | refine WL.reS ?_ | refine WL.exS ?_ | refine WL.nilB ?_ | refine WL.nilT ?_ | refine WL.exit ?_ | refine WL.ret ?_ | refine WL.exT ?_ | refine WL.exB ?_ | refine WL.exN rfl ?_ | refine WL.reT ?_ | refine WL.reB ?_) | ((first | refine WL.reg rfl ?_ | refine WL.regT zai rfl ?_); (conv => { arg 3; simp [prep, prep1] }); (repeat (first | (refine zae ?_ ?_; (focus (simp; done)); (conv => { arg 4; simp (disch := omega) [e0, e1, e2, w32] }); (first | (first | refine zaa ?_ | (refine zac ?_; (conv => { arg 5; simp }))))) | (refine zab rfl ?_ ?_; (focus (simp; done))))); with_reducible refine zad ?_; (first | refine ⟨rfl, ?_⟩ | refine ⟨by simp [quietB], by simp [quietU], ?_⟩ | skip)) | (refine WL.cond ?_; (conv => { arg 1; simp (disch := omega) [e0, e1, e2, w32] }); with_reducible (first | refine zaj ?_ | refine zak ?_ | refine zag (by omega) ?_ | refine zah (by omega) ?_))))
  refine ⟨[], ?_⟩
  simp (disch := omega) [w32]
  omega
theorem limbDivNo (hi lo y : Nat) (hh : y ≤ hi) : CallOk Tryz.prog 209 [w32 hi, w32 lo, w32 y] [] (.tup [w32 0, w32 0, .bool false]) [] := by
  refine CallOk.of_wl Tryz.func209 rfl rfl rfl (Nat.le_of_ble_eq_true rfl) ?_
  (repeat (first | with_reducible (first | refine WL.seq ?_ | refine WL.skip ?_ | refine WL.label ?_ | refine WL.block ?_ | refine WL.scope ?_ | refine WL.nilS ?_ | refine WL.reS ?_ | refine WL.exS ?_ | refine WL.nilB ?_ | refine WL.nilT ?_ | refine WL.exit ?_ | refine WL.ret ?_ | refine WL.exT ?_ | refine WL.exB ?_ | refine WL.exN rfl ?_ | refine WL.reT ?_ | refine WL.reB ?_) | ((first | refine WL.reg rfl ?_ | refine WL.regT zai rfl ?_); (conv => { arg 3; simp [prep, prep1] }); (repeat (first | (refine zae ?_ ?_; (focus (simp; done)); (conv => { arg 4; simp (disch := omega) [w32, hh] }); (first | (first | refine zaa ?_ | (refine zac ?_; (conv => { arg 5; simp }))))) | (refine zab rfl ?_ ?_; (focus (simp; done))))); with_reducible refine zad ?_; (first | refine ⟨rfl, ?_⟩ | refine ⟨by simp [quietB], by simp [quietU], ?_⟩ | skip)) | (refine WL.cond ?_; (conv => { arg 1; simp (disch := omega) [w32, hh] }); with_reducible (first | refine zaj ?_ | refine zak ?_ | refine zag (by omega) ?_ | refine zah (by omega) ?_))))
  refine ⟨[], ?_⟩
  simp (disch := omega) [w32]
def bitL (n : Nat) : Nat := if n = 0 then 0 else bitL (n / 2) + 1
termination_by n
decreasing_by omega
theorem zdz : bitL 0 = 0 := by unfold bitL; rfl
theorem zfc {n : Nat} (h : n ≠ 0) : bitL n = bitL (n / 2) + 1 := by conv => lhs; unfold bitL; rw [if_neg h]
theorem zea (k : Nat) : ∀ n : Nat, n / 2 ^ k ≠ 0 → bitL n = bitL (n / 2 ^ k) + k := by
  induction k with
  | zero => intro n _; simp
  | succ k ih =>
    intro n h
    have hn : n ≠ 0 := by intro e; subst e; simp at h
    have e : n / 2 ^ (k + 1) = n / 2 / 2 ^ k := by rw [Nat.pow_succ, Nat.mul_comm, Nat.div_div_eq_div_mul]
    rw [zfc hn, e, ih (n / 2) (by rw [← e]; exact h)]
    omega
theorem zia (n : Nat) : n < 2 ^ bitL n := by
  induction n using Nat.strongRecOn with
  | _ n ih =>
    by_cases h : n = 0
    · subst h; simp [zdz]
    · rw [zfc h, Nat.pow_succ]; have := ih (n / 2) (by omega); omega
theorem two_bitL_le {n : Nat} (h : n ≠ 0) : 2 ^ (bitL n - 1) ≤ n := by
  induction n using Nat.strongRecOn with
  | _ n ih =>
    rw [zfc h]
    by_cases h2 : n / 2 = 0
    · rw [h2, zdz]; simp; omega
    · have := ih (n / 2) (by omega) h2
      have hp : bitL (n / 2) ≠ 0 := by rw [zfc h2]; omega
      obtain ⟨k, hk⟩ : ∃ k, bitL (n / 2) = k + 1 := ⟨bitL (n / 2) - 1, by omega⟩
      rw [hk] at this ⊢
      simp only [Nat.add_sub_cancel, Nat.pow_succ] at this ⊢
      omega
theorem zky {n k : Nat} (h : n < 2 ^ k) : bitL n ≤ k := by
  by_cases h0 : n = 0
  · subst h0; rw [zdz]; omega
  · have := two_bitL_le h0
    have h3 : 2 ^ (bitL n - 1) < 2 ^ k := Nat.lt_of_le_of_lt this h
    have := (Nat.pow_lt_pow_iff_right (by decide : 1 < 2)).1 h3
    omega
theorem limbLen (x : Nat) (hx : x < 4294967296) : CallOk Tryz.prog 188 [w32 x] [] (.int .i64 (bitL x)) [] := by
  refine CallOk.of_wl Tryz.func188 rfl rfl rfl (Nat.le_of_ble_eq_true rfl) ?_
  (repeat (first | with_reducible (first | refine WL.seq ?_ | refine WL.skip ?_ | refine WL.label ?_ | refine WL.block ?_ | refine WL.scope ?_ | refine WL.nilS ?_ | refine WL.reS ?_ | refine WL.exS ?_ | refine WL.nilB ?_ | refine WL.nilT ?_ | refine WL.exit ?_ | refine WL.ret ?_ | refine WL.exT ?_ | refine WL.exB ?_ | refine WL.exN rfl ?_ | refine WL.reT ?_ | refine WL.reB ?_) | ((first | refine WL.reg rfl ?_ | refine WL.regT zai rfl ?_); (conv => { arg 3; simp [prep, prep1] }); (repeat (first | (refine zae ?_ ?_; (focus (simp; done)); (conv => { arg 4; simp (disch := omega) [w32] }); (first | (first | refine zaa ?_ | (refine zac ?_; (conv => { arg 5; simp }))))) | (refine zab rfl ?_ ?_; (focus (simp; done))))); with_reducible refine zad ?_; (first | refine ⟨rfl, ?_⟩ | refine ⟨by simp [quietB], by simp [quietU], ?_⟩ | skip)) | (refine WL.cond ?_; (conv => { arg 1; simp (disch := omega) [w32] }); with_reducible (first | refine zaj ?_ | refine zak ?_ | refine zag (by omega) ?_ | refine zah (by omega) ?_))))
  refine WL.loop (fun m s => ∃ k n y : Nat, m = k ∧ s.frame 0 = w32 y ∧ s.frame 3 = .int .i64 n ∧ s.frame 4 = .int .i64 k ∧ bitL x = bitL y + n ∧ n ≤ 32 ∧
    ((k = 16 ∧ y < 4294967296) ∨ (k = 8 ∧ y < 65536) ∨ (k = 4 ∧ y < 256) ∨ (k = 2 ∧ y < 16) ∨ (k = 1 ∧ y < 4) ∨ (k = 0 ∧ y < 2))) 16 ?_ ?_
  · exact ⟨16, 0, x, rfl, by simp [w32], by simp, by simp, by omega, by omega, .inl ⟨rfl, hx⟩⟩
  rintro m ⟨f, σ, g⟩ ⟨k, n, y, rfl, h0, h3, h4, hb, hn, hk⟩
  simp only at h0 h3 h4
  have hw : bitL x ≤ 32 := zky (by omega)
  rcases hk with ⟨rfl, hy⟩ | ⟨rfl, hy⟩ | ⟨rfl, hy⟩ | ⟨rfl, hy⟩ | ⟨rfl, hy⟩ | ⟨rfl, hy⟩
  · have hs := zea 16 y
    by_cases hz : (y : Int) / 65536 = 0
    · (repeat (first | with_reducible (first | refine WL.seq ?_ | refine WL.skip ?_ | refine WL.label ?_ | refine WL.block ?_ | refine WL.scope ?_ | refine WL.nilS ?_ | refine WL.reS ?_ | refine WL.exS ?_ | refine WL.nilB ?_ | refine WL.nilT ?_ | refine WL.exit ?_ | refine WL.ret ?_ | refine WL.exT ?_ | refine WL.exB ?_ | refine WL.exN rfl ?_ | refine WL.reT ?_ | refine WL.reB ?_) | ((first | refine WL.reg rfl ?_ | refine WL.regT zai rfl ?_); (conv => { arg 3; simp [prep, prep1] }); (repeat (first | (refine zae ?_ ?_; (focus (simp; done)); (conv => { arg 4; simp (disch := omega) [h0, h4, w32, zar, hz] }); (first | (first | refine zaa ?_ | (refine zac ?_; (conv => { arg 5; simp }))))) | (refine zab rfl ?_ ?_; (focus (simp; done))))); with_reducible refine zad ?_; (first | refine ⟨rfl, ?_⟩ | refine ⟨by simp [quietB], by simp [quietU], ?_⟩ | skip)) | (refine WL.cond ?_; (conv => { arg 1; simp (disch := omega) [h0, h4, w32, zar, hz] }); with_reducible (first | refine zaj ?_ | refine zak ?_ | refine zag (by omega) ?_ | refine zah (by omega) ?_))))
      exact ⟨8, by omega, 8, n, y, rfl, by simp [h0], by simp [h3], by simp, by omega, by omega, by omega⟩
    · (repeat (first | with_reducible (first | refine WL.seq ?_ | refine WL.skip ?_ | refine WL.label ?_ | refine WL.block ?_ | refine WL.scope ?_ | refine WL.nilS ?_ | refine WL.reS ?_ | refine WL.exS ?_ | refine WL.nilB ?_ | refine WL.nilT ?_ | refine WL.exit ?_ | refine WL.ret ?_ | refine WL.exT ?_ | refine WL.exB ?_ | refine WL.exN rfl ?_ | refine WL.reT ?_ | refine WL.reB ?_) | ((first | refine WL.reg rfl ?_ | refine WL.regT zai rfl ?_); (conv => { arg 3; simp [prep, prep1] }); (repeat (first | (refine zae ?_ ?_; (focus (simp; done)); (conv => { arg 4; simp (disch := omega) [h0, h3, h4, w32, zar, hz] }); (first | (first | refine zaa ?_ | (refine zac ?_; (conv => { arg 5; simp }))))) | (refine zab rfl ?_ ?_; (focus (simp; done))))); with_reducible refine zad ?_; (first | refine ⟨rfl, ?_⟩ | refine ⟨by simp [quietB], by simp [quietU], ?_⟩ | skip)) | (refine WL.cond ?_; (conv => { arg 1; simp (disch := omega) [h0, h3, h4, w32, zar, hz] }); with_reducible (first | refine zaj ?_ | refine zak ?_ | refine zag (by omega) ?_ | refine zah (by omega) ?_))))
      exact ⟨8, by omega, 8, n + 16, y / 65536, rfl, by simp [w32], by simp, by simp, by simp at hs; omega, by simp at hs; omega, by omega⟩
  · have hs := zea 8 y
    by_cases hz : (y : Int) / 256 = 0
    · (repeat (first | with_reducible (first | refine WL.seq ?_ | refine WL.skip ?_ | refine WL.label ?_ | refine WL.block ?_ | refine WL.scope ?_ | refine WL.nilS ?_ | refine WL.reS ?_ | refine WL.exS ?_ | refine WL.nilB ?_ | refine WL.nilT ?_ | refine WL.exit ?_ | refine WL.ret ?_ | refine WL.exT ?_ | refine WL.exB ?_ | refine WL.exN rfl ?_ | refine WL.reT ?_ | refine WL.reB ?_) | ((first | refine WL.reg rfl ?_ | refine WL.regT zai rfl ?_); (conv => { arg 3; simp [prep, prep1] }); (repeat (first | (refine zae ?_ ?_; (focus (simp; done)); (conv => { arg 4; simp (disch := omega) [h0, h4, w32, zar, hz] }); (first | (first | refine zaa ?_ | (refine zac ?_; (conv => { arg 5; simp }))))) | (refine zab rfl ?_ ?_; (focus (simp; done))))); with_reducible refine zad ?_; (first | refine ⟨rfl, ?_⟩ | refine ⟨by simp [quietB], by simp [quietU], ?_⟩ | skip)) | (refine WL.cond ?_; (conv => { arg 1; simp (disch := omega) [h0, h4, w32, zar, hz] }); with_reducible (first | refine zaj ?_ | refine zak ?_ | refine zag (by omega) ?_ | refine zah (by omega) ?_))))
      exact ⟨4, by omega, 4, n, y, rfl, by simp [h0], by simp [h3], by simp, by omega, by omega, by omega⟩
    · (repeat (first | with_reducible (first | refine WL.seq ?_ | refine WL.skip ?_ | refine WL.label ?_ | refine WL.block ?_ | refine WL.scope ?_ | refine WL.nilS ?_ | refine WL.reS ?_ | refine WL.exS ?_ | refine WL.nilB ?_ | refine WL.nilT ?_ | refine WL.exit ?_ | refine WL.ret ?_ | refine WL.exT ?_ | refine WL.exB ?_ | refine WL.exN rfl ?_ | refine WL.reT ?_ | refine WL.reB ?_) | ((first | refine WL.reg rfl ?_ | refine WL.regT zai rfl ?_); (conv => { arg 3; simp [prep, prep1] }); (repeat (first | (refine zae ?_ ?_; (focus (simp; done)); (conv => { arg 4; simp (disch := omega) [h0, h3, h4, w32, zar, hz] }); (first | (first | refine zaa ?_ | (refine zac ?_; (conv => { arg 5; simp }))))) | (refine zab rfl ?_ ?_; (focus (simp; done))))); with_reducible refine zad ?_; (first | refine ⟨rfl, ?_⟩ | refine ⟨by simp [quietB], by simp [quietU], ?_⟩ | skip)) | (refine WL.cond ?_; (conv => { arg 1; simp (disch := omega) [h0, h3, h4, w32, zar, hz] }); with_reducible (first | refine zaj ?_ | refine zak ?_ | refine zag (by omega) ?_ | refine zah (by omega) ?_))))
      exact ⟨4, by omega, 4, n + 8, y / 256, rfl, by simp [w32], by simp, by simp, by simp at hs; omega, by simp at hs; omega, by omega⟩
  · have hs := zea 4 y
    by_cases hz : (y : Int) / 16 = 0
    · (repeat (first | with_reducible (first | refine WL.seq ?_ | refine WL.skip ?_ | refine WL.label ?_ | refine WL.block ?_ | refine WL.scope ?_ | refine WL.nilS ?_ | refine WL.reS ?_ | refine WL.exS ?_ | refine WL.nilB ?_ | refine WL.nilT ?_ | refine WL.exit ?_ | refine WL.ret ?_ | refine WL.exT ?_ | refine WL.exB ?_ | refine WL.exN rfl ?_ | refine WL.reT ?_ | refine WL.reB ?_) | ((first | refine WL.reg rfl ?_ | refine WL.regT zai rfl ?_); (conv => { arg 3; simp [prep, prep1] }); (repeat (first | (refine zae ?_ ?_; (focus (simp; done)); (conv => { arg 4; simp (disch := omega) [h0, h4, w32, zar, hz] }); (first | (first | refine zaa ?_ | (refine zac ?_; (conv => { arg 5; simp }))))) | (refine zab rfl ?_ ?_; (focus (simp; done))))); with_reducible refine zad ?_; (first | refine ⟨rfl, ?_⟩ | refine ⟨by simp [quietB], by simp [quietU], ?_⟩ | skip)) | (refine WL.cond ?_; (conv => { arg 1; simp (disch := omega) [h0, h4, w32, zar, hz] }); with_reducible (first | refine zaj ?_ | refine zak ?_ | refine zag (by omega) ?_ | refine zah (by omega) ?_))))
      exact ⟨2, by omega, 2, n, y, rfl, by simp [h0], by simp [h3], by simp, by omega, by omega, by omega⟩
    · (repeat (first | with_reducible (first | refine WL.seq ?_ | refine WL.skip ?_ | refine WL.label ?_ | refine WL.block ?_ | refine WL.scope ?_ | refine WL.nilS ?_ | refine WL.reS ?_ | refine WL.exS ?_ | refine WL.nilB ?_ | refine WL.nilT ?_ | refine WL.exit ?_ | refine WL.ret ?_ | refine WL.exT ?_ | refine WL.exB ?_ | refine WL.exN rfl ?_ | refine WL.reT ?_ | refine WL.reB ?_) | ((first | refine WL.reg rfl ?_ | refine WL.regT zai rfl ?_); (conv => { arg 3; simp [prep, prep1] }); (repeat (first | (refine zae ?_ ?_; (focus (simp; done)); (conv => { arg 4; simp (disch := omega) [h0, h3, h4, w32, zar, hz] }); (first | (first | refine zaa ?_ | (refine zac ?_; (conv => { arg 5; simp }))))) | (refine zab rfl ?_ ?_; (focus (simp; done))))); with_reducible refine zad ?_; (first | refine ⟨rfl, ?_⟩ | refine ⟨by simp [quietB], by simp [quietU], ?_⟩ | skip)) | (refine WL.cond ?_; (conv => { arg 1; simp (disch := omega) [h0, h3, h4, w32, zar, hz] }); with_reducible (first | refine zaj ?_ | refine zak ?_ | refine zag (by omega) ?_ | refine zah (by omega) ?_))))
      exact ⟨2, by omega, 2, n + 4, y / 16, rfl, by simp [w32], by simp, by simp, by simp at hs; omega, by simp at hs; omega, by omega⟩
  · have hs := zea 2 y
    by_cases hz : (y : Int) / 4 = 0
    · (repeat (first | with_reducible (first | refine WL.seq ?_ | refine WL.skip ?_ | refine WL.label ?_ | refine WL.block ?_ | refine WL.scope ?_ | refine WL.nilS ?_ | refine WL.reS ?_ | refine WL.exS ?_ | refine WL.nilB ?_ | refine WL.nilT ?_ | refine WL.exit ?_ | refine WL.ret ?_ | refine WL.exT ?_ | refine WL.exB ?_ | refine WL.exN rfl ?_ | refine WL.reT ?_ | refine WL.reB ?_) | ((first | refine WL.reg rfl ?_ | refine WL.regT zai rfl ?_); (conv => { arg 3; simp [prep, prep1] }); (repeat (first | (refine zae ?_ ?_; (focus (simp; done)); (conv => { arg 4; simp (disch := omega) [h0, h4, w32, zar, hz] }); (first | (first | refine zaa ?_ | (refine zac ?_; (conv => { arg 5; simp }))))) | (refine zab rfl ?_ ?_; (focus (simp; done))))); with_reducible refine zad ?_; (first | refine ⟨rfl, ?_⟩ | refine ⟨by simp [quietB], by simp [quietU], ?_⟩ | skip)) | (refine WL.cond ?_; (conv => { arg 1; simp (disch := omega) [h0, h4, w32, zar, hz] }); with_reducible (first | refine zaj ?_ | refine zak ?_ | refine zag (by omega) ?_ | refine zah (by omega) ?_))))
      exact ⟨1, by omega, 1, n, y, rfl, by simp [h0], by simp [h3], by simp, by omega, by omega, by omega⟩
    · (repeat (first | with_reducible (first | refine WL.seq ?_ | refine WL.skip ?_ | refine WL.label ?_ | refine WL.block ?_ | refine WL.scope ?_ | refine WL.nilS ?_ | refine WL.reS ?_ | refine WL.exS ?_ | refine WL.nilB ?_ | refine WL.nilT ?_ | refine WL.exit ?_ | refine WL.ret ?_ | refine WL.exT ?_ | refine WL.exB ?_ | refine WL.exN rfl ?_ | refine WL.reT ?_ | refine WL.reB ?_) | ((first | refine WL.reg rfl ?_ | refine WL.regT zai rfl ?_); (conv => { arg 3; simp [prep, prep1] }); (repeat (first | (refine zae ?_ ?_; (focus (simp; done)); (conv => { arg 4; simp (disch := omega) [h0, h3, h4, w32, zar, hz] }); (first | (first | refine zaa ?_ | (refine zac ?_; (conv => { arg 5; simp }))))) | (refine zab rfl ?_ ?_; (focus (simp; done))))); with_reducible refine zad ?_; (first | refine ⟨rfl, ?_⟩ | refine ⟨by simp [quietB], by simp [quietU], ?_⟩ | skip)) | (refine WL.cond ?_; (conv => { arg 1; simp (disch := omega) [h0, h3, h4, w32, zar, hz] }); with_reducible (first | refine zaj ?_ | refine zak ?_ | refine zag (by omega) ?_ | refine zah (by omega) ?_))))
      exact ⟨1, by omega, 1, n + 2, y / 4, rfl, by simp [w32], by simp, by simp, by simp at hs; omega, by simp at hs; omega, by omega⟩
  · have hs := zea 1 y
    by_cases hz : (y : Int) / 2 = 0
    · (repeat (first | with_reducible (first | refine WL.seq ?_ | refine WL.skip ?_ | refine WL.label ?_ | refine WL.block ?_ | refine WL.scope ?_ | refine WL.nilS ?_ | refine WL.reS ?_ | refine WL.exS ?_ | refine WL.nilB ?_ | refine WL.nilT ?_ | refine WL.exit ?_ | refine WL.ret ?_ | refine WL.exT ?_ | refine WL.exB ?_ | refine WL.exN rfl ?_ | refine WL.reT ?_ | refine WL.reB ?_) | ((first | refine WL.reg rfl ?_ | refine WL.regT zai rfl ?_); (conv => { arg 3; simp [prep, prep1] }); (repeat (first | (refine zae ?_ ?_; (focus (simp; done)); (conv => { arg 4; simp (disch := omega) [h0, h4, w32, zar, hz] }); (first | (first | refine zaa ?_ | (refine zac ?_; (conv => { arg 5; simp }))))) | (refine zab rfl ?_ ?_; (focus (simp; done))))); with_reducible refine zad ?_; (first | refine ⟨rfl, ?_⟩ | refine ⟨by simp [quietB], by simp [quietU], ?_⟩ | skip)) | (refine WL.cond ?_; (conv => { arg 1; simp (disch := omega) [h0, h4, w32, zar, hz] }); with_reducible (first | refine zaj ?_ | refine zak ?_ | refine zag (by omega) ?_ | refine zah (by omega) ?_))))
      exact ⟨0, by omega, 0, n, y, rfl, by simp [h0], by simp [h3], by simp, by omega, by omega, by omega⟩
    · (repeat (first | with_reducible (first | refine WL.seq ?_ | refine WL.skip ?_ | refine WL.label ?_ | refine WL.block ?_ | refine WL.scope ?_ | refine WL.nilS ?_ | refine WL.reS ?_ | refine WL.exS ?_ | refine WL.nilB ?_ | refine WL.nilT ?_ | refine WL.exit ?_ | refine WL.ret ?_ | refine WL.exT ?_ | refine WL.exB ?_ | refine WL.exN rfl ?_ | refine WL.reT ?_ | refine WL.reB ?_) | ((first | refine WL.reg rfl ?_ | refine WL.regT zai rfl ?_); (conv => { arg 3; simp [prep, prep1] }); (repeat (first | (refine zae ?_ ?_; (focus (simp; done)); (conv => { arg 4; simp (disch := omega) [h0, h3, h4, w32, zar, hz] }); (first | (first | refine zaa ?_ | (refine zac ?_; (conv => { arg 5; simp }))))) | (refine zab rfl ?_ ?_; (focus (simp; done))))); with_reducible refine zad ?_; (first | refine ⟨rfl, ?_⟩ | refine ⟨by simp [quietB], by simp [quietU], ?_⟩ | skip)) | (refine WL.cond ?_; (conv => { arg 1; simp (disch := omega) [h0, h3, h4, w32, zar, hz] }); with_reducible (first | refine zaj ?_ | refine zak ?_ | refine zag (by omega) ?_ | refine zah (by omega) ?_))))
      exact ⟨0, by omega, 0, n + 1, y / 2, rfl, by simp [w32], by simp, by simp, by simp at hs; omega, by simp at hs; omega, by omega⟩
  · have hy' : bitL y = y := by
      have : y = 0 ∨ y = 1 := by omega
      rcases this with rfl | rfl
      · rw [zdz]
      · rw [zfc (by decide), show 1 / 2 = 0 from rfl, zdz]
    (repeat (first | with_reducible (first | refine WL.seq ?_ | refine WL.skip ?_ | refine WL.label ?_ | refine WL.block ?_ | refine WL.scope ?_ | refine WL.nilS ?_ | refine WL.reS ?_ | refine WL.exS ?_ | refine WL.nilB ?_ | refine WL.nilT ?_ | refine WL.exit ?_ | refine WL.ret ?_ | refine WL.exT ?_ | refine WL.exB ?_ | refine WL.exN rfl ?_ | refine WL.reT ?_ | refine WL.reB ?_) | ((first | refine WL.reg rfl ?_ | refine WL.regT zai rfl ?_); (conv => { arg 3; simp [prep, prep1] }); (repeat (first | (refine zae ?_ ?_; (focus (simp; done)); (conv => { arg 4; simp (disch := omega) [h0, h3, h4, w32] }); (first | (first | refine zaa ?_ | (refine zac ?_; (conv => { arg 5; simp }))))) | (refine zab rfl ?_ ?_; (focus (simp; done))))); with_reducible refine zad ?_; (first | refine ⟨rfl, ?_⟩ | refine ⟨by simp [quietB], by simp [quietU], ?_⟩ | skip)) | (refine WL.cond ?_; (conv => { arg 1; simp (disch := omega) [h0, h3, h4, w32] }); with_reducible (first | refine zaj ?_ | refine zak ?_ | refine zag (by omega) ?_ | refine zah (by omega) ?_))))
    refine ⟨[], ?_⟩
    simp (disch := omega) 
    omega
end Go.Proofs.YthgldcflcmlgpaaGreatDoorE
end
section
/- A slice of the call's own that is handed back, told as a list that is read. -/
set_option linter.unusedVariables false
set_option linter.unusedSimpArgs false
namespace Go.Proofs.YthgldcflcmlgpaaGreatDoorE
open Go.RowKit
theorem CallOk.freeze {P : Program} {f : FuncId} {ps : List PV} {n sz : Nat} {l : List PV} (h : CallOk P f ps [] (.sl ⟨0, 0, 0⟩ 0 0 n sz) [⟨0, true, true, l⟩]) : CallOk P f ps [] (.rd l n) [] := by
  intro c β0 args hE
  have hI : ∀ id g, ¬ c.I id g := fun id g hi => by
    have := hE.own id g hi
    simp [stOf] at this
  refine (h c β0 args hE).mono ?_
  rintro e w' ⟨v, β', he, hL⟩
  refine ⟨v, β', he, hL.keeps, ?_, ⟨fun id blk hb => by simp [env, stOf] at hb, fun id id' blk blk' g o o' hb => by simp [env, stOf] at hb⟩, fun id blk hb => by simp [stOf] at hb⟩
  have hσ : (env c β' (stOf [⟨0, true, true, l⟩]) w').σ ⟨0, 0, 0⟩ = some ⟨0, true, true, l⟩ := by simp [env, stOf]
  have hs := hL.vr.sl_inv hσ rfl
  have hb := hL.st.1 ⟨0, 0, 0⟩ _ hσ
  unfold SlAt at hs
  cases hβ : (env c β' (stOf [⟨0, true, true, l⟩]) w').β ⟨0, 0, 0⟩ with
  | none =>
    rw [hβ] at hs
    obtain ⟨rfl, rfl⟩ := hs
    unfold BlkRel at hb
    rw [hβ] at hb
    simp only at hb
    subst hb
    exact .rd0 _ _ _ (Nat.le_refl _)
  | some go =>
    obtain ⟨g, o⟩ := go
    rw [hβ] at hs
    obtain ⟨cap, rfl, hn, _, _⟩ := hs
    obtain ⟨h0, cc, et, fz, hat⟩ := hb.at_ hβ
    have hB : c.w0.heap.size ≤ g := by
      rcases h0 with h0 | ⟨_, _, h0⟩
      · exact h0
      · exact (hI _ _ h0).elim
    refine .rd l n ⟨g, o + 0, none⟩ cap (fun j => cc.getD (o + j) undef) hn ?_ ?_ ?_ hat.one
    · exact ⟨(Array.getElem?_eq_some_iff.1 hat.heap).1, .inr hB, fun id blk o hb => by simp [stOf] at hb⟩
    · intro j hj
      have hsz := hat.size
      simp only at hsz hj
      have hh : w'.heap[g]? = some (.cells cc et fz) := hat.heap
      rw [add_lit]
      simp only [env, World.cell?, hh, Nat.add_zero]
      rw [Array.getElem?_eq_getElem (by omega), Array.getD_eq_getD_getElem?, Array.getElem?_eq_getElem (by omega)]
      rfl
    · intro j hj
      have hc := hat.cell j hj
      rw [if_pos rfl] at hc
      refine VR.mono (E' := (env c β' (stOf []) w').bare) ?_ hc
      exact ⟨fun g h => ⟨h.1, h.2.1, fun id blk o hb => by simp [stOf] at hb⟩, fun _ _ => rfl, fun _ _ h => h, fun id blk hb => by simp [Env.bare] at hb⟩
/-! ### effects of known shape, without working out the whole state again -/
section
variable {P : Program} {K : List Eff → St → Prop} {o : Oper} {l : List (Option (Option (Nat × Bool)) × Oper)} {es : List Eff} {f : Nat → PV} {σ : Id → Option Blk} {g : Nat → Nat} {d : Nat} {v : PV} {rs : List Id} {i : Id} {b : Blk}
theorem zhj (h : runK P K l (⟨v, rs, [(i, b)], false⟩ :: es) ⟨upd f d v, updI σ i (some b), g⟩) : contK P o ⟨f, σ, g⟩ (some ⟨v, rs, [(i, b)], false⟩) (fun e => runK P K l (e :: es) (St.eff ⟨f, σ, g⟩ (some d) e)) := h
theorem zgb (h : runK P K l (⟨v, rs, [(i, b)], true⟩ :: es) ⟨upd f d v, updI σ i (some b), upd g d (g d + 1)⟩) : contK P o ⟨f, σ, g⟩ (some ⟨v, rs, [(i, b)], true⟩) (fun e => runK P K l (e :: es) (St.eff ⟨f, σ, g⟩ (some d) e)) := h
theorem zhk (h : runK P K l (⟨v, rs, [(i, b)], false⟩ :: es) ⟨f, updI σ i (some b), g⟩) : contK P o ⟨f, σ, g⟩ (some ⟨v, rs, [(i, b)], false⟩) (fun e => runK P K l (e :: es) (St.eff ⟨f, σ, g⟩ none e)) := h
def plainC : PV → Bool
  | .sl _ _ _ _ _ | .pt _ _ _ => false
  | _ => true
def plainA : PV → Bool
  | .agg l => l.all plainC
  | p => plainC p
def plainP : PV → Bool
  | .tup l => l.all plainA
  | p => plainA p
theorem renC_plain {io : List Id} {d g : Nat} {p : PV} (h : plainC p = true) : renC io d g p = p := by
  cases p <;> first | rfl | cases h
theorem zja {io : List Id} {d g : Nat} {p : PV} (h : plainA p = true) : renA io d g p = p := by
  cases p with
  | sl => cases h
  | pt => cases h
  | agg l =>
    have h : l.all plainC = true := h
    show PV.agg (l.map (renC io d g)) = PV.agg l
    congr 1
    conv => rhs; rw [← List.map_id l]
    exact List.map_congr_left fun x hx => renC_plain (List.all_eq_true.1 h x hx)
  | _ => rfl
theorem ziz {io : List Id} {d g : Nat} {p : PV} (h : plainP p = true) : renP io d g p = p := by
  cases p with
  | agg l => exact zja (p := .agg l) h
  | sl => cases h
  | pt => cases h
  | tup l =>
    have h : l.all plainA = true := h
    show PV.tup (l.map (renA io d g)) = PV.tup l
    congr 1
    conv => rhs; rw [← List.map_id l]
    exact List.map_congr_left fun x hx => zja (List.all_eq_true.1 h x hx)
  | _ => rfl
def frz1 (x : Option Blk) (K : Nat → Bool → List PV → Prop) : Prop :=
  match x with
  | some b => K b.ver b.flat b.cells
  | none => False
theorem zbg {v : Nat} {o fl : Bool} {cs : List PV} {K : Nat → Bool → List PV → Prop} (h : K v fl cs) : frz1 (some ⟨v, o, fl, cs⟩) K := h
theorem zbo {fn : FuncId} {ps : List PV} {r : PV} (hc : CallOk P fn ps [] r []) (hs : (sideB r [] true && plainP r) = true) (h : runK P K l (⟨r, [], [], false⟩ :: es) ⟨upd f d r, σ, g⟩) :
    callC P fn ⟨f, σ, g⟩ d true (some (ps, [])) (fun e => runK P K l (e :: es) (St.eff ⟨f, σ, g⟩ (some d) e)) := by
  simp only [Bool.and_eq_true] at hs
  refine zaf hc hs.1 ?_
  have e : callE [] [] d (g d) r [] true σ = ⟨r, [], [], false⟩ := by
    unfold callE
    rw [ziz hs.2]; rfl
  show runK P K l (callE [] [] d (g d) r [] true σ :: es) _
  rw [e]; exact h
theorem zbn {fn : FuncId} {ps : List PV} {r : PV} (hc : CallOk P fn ps [] r []) (hs : (sideB r [] true && plainP r) = true) (h : frz1 (σ i) fun v fl cs => runK P K l (⟨r, [i], [(i, ⟨v, false, fl, cs⟩)], false⟩ :: es) ⟨upd f d r, updI σ i (some ⟨v, false, fl, cs⟩), g⟩) :
    callC P fn ⟨f, σ, g⟩ d true (some (ps, [i])) (fun e => runK P K l (e :: es) (St.eff ⟨f, σ, g⟩ (some d) e)) := by
  simp only [Bool.and_eq_true] at hs
  refine zaf hc hs.1 ?_
  unfold frz1 at h
  split at h
  · rename_i b hb
    have e : callE [] [i] d (g d) r [] true σ = ⟨r, [i], [(i, { b with own := false })], false⟩ := by
      unfold callE
      rw [ziz hs.2]
      simp [newL, frzL, hb]
    show runK P K l (callE [] [i] d (g d) r [] true σ :: es) _
    rw [e]; exact h
  · exact h.elim
end
def effG (P : Program) (op : Op) (dst : Option Nat) (f : Nat → PV) (σ : Id → Option Blk) (g : Nat → Nat) : Option Eff :=
  match op with
  | .load t x => (evalL P (.load t x) (pv f) σ).map fun (p, rs) => ⟨p, rs, [], false⟩
  | .alloc t => match dst with | some d => allocE P t d (g d) | none => none
  | .box t x => match dst with | some d => boxE (pv f x) d (g d) | none => none
  | .store t x y => match dst with | none => storeE P t (pv f x) (pv f y) σ | some _ => none
  | .makeSlice t x y => match dst with | some d => makeE P t (pv f x) (pv f y) d (g d) | none => none
  | .buildSlice t len ps => match dst with | some d => litE P t len (allParts (pv f) ps.toList) σ d (g d) | none => none
  | .call c => effC P c dst ⟨f, σ, g⟩
  | op => (evalV P op (pv f) σ).map fun (p, rs) => ⟨p, rs, [], false⟩
theorem effG_eq (P : Program) (op : Op) (dst : Option Nat) (f : Nat → PV) (σ : Id → Option Blk) (g : Nat → Nat) : effF P op dst ⟨f, σ, g⟩ = effG P op dst f σ g := by
  cases op <;> first | rfl | (unfold effF effG; rfl)
theorem zgy {P : Program} {K : List Eff → St → Prop} {gd : Option (Option (Nat × Bool))} {dst : Option Nat} {op : Op} {ty : TypeId} {pos : String} {af : Array Edge} {gr : Option (Nat × Bool)} {l : List (Option (Option (Nat × Bool)) × Oper)} {es : List Eff} {f : Nat → PV} {σ : Id → Option Blk} {g : Nat → Nat} (hw : wantK gd f = some true)
    (h : contK P ⟨dst, op, ty, pos, af, gr⟩ ⟨f, σ, g⟩ (effG P op dst f σ g) fun e => runK P K l (e :: es) (St.eff ⟨f, σ, g⟩ dst e)) : runK P K ((gd, ⟨dst, op, ty, pos, af, gr⟩) :: l) es ⟨f, σ, g⟩ := by
  refine zae hw ?_
  show contK P _ _ (effF P op dst ⟨f, σ, g⟩) _
  rw [effG_eq]; exact h
theorem zau {P : Program} {K : List Eff → St → Prop} {gd : Option (Option (Nat × Bool))} {d : Nat} {fn : FuncId} {args : Array Operand} {at_ : Array TypeId} {ty : TypeId} {pos : String} {af : Array Edge} {gr : Option (Nat × Bool)} {l : List (Option (Option (Nat × Bool)) × Oper)} {es : List Eff} {f : Nat → PV} {σ : Id → Option Blk} {g : Nat → Nat}
    (hf : FnOk P fn) (hw : wantK gd f = some true) (h : callC P fn ⟨f, σ, g⟩ d true (expL (expA σ []) (args.toList.map (pv f))) fun e => runK P K l (e :: es) (St.eff ⟨f, σ, g⟩ (some d) e)) :
    runK P K ((gd, ⟨some d, .call { callee := .value (.func fn), args := args, argTypes := at_ }, ty, pos, af, gr⟩) :: l) es ⟨f, σ, g⟩ := by
  refine zae hw ?_
  exact zal (P := P) (o := ⟨some d, .call { callee := .value (.func fn), args := args, argTypes := at_ }, ty, pos, af, gr⟩) true rfl rfl hf h
end Go.Proofs.YthgldcflcmlgpaaGreatDoorE
end
section
/- Shifts of naturals by less than a word. -/
set_option linter.unusedVariables false
set_option linter.unusedSimpArgs false
namespace Go.Proofs.YthgldcflcmlgpaaGreatDoorE
open Go.RowKit
set_option maxRecDepth 100000
attribute [local simp] List.getElem?_cons_zero List.getElem?_cons_succ List.getElem?_nil wrap_i64 stOf st0 effF effC evalV evalL zfd zcr pv_t pv_c pv_g pv_f ofConst binV binI lenV foldV mx2 mn2 unV convV extractV idxV indexV fieldAddrV fieldV partV sliceV boundsV loadL live storeE appendE srcV litE makeE IntKind.bits copyE boxE allocE flatParts flatCs flatC allParts cellsOf solid leafB fillL frzL buildV fillP placeS eqFl eqCell St.eff St.put wrs callE renP renA renC renI nid newL renB noEff endK endR resA resL resV expP expA expC expN expL expBs expB idx thenQ blockQ wantK if_pos if_neg wrap_u32 zas beqI bneI w32 wl zar Int.natCast_inj
theorem c32 : ((4294967296 : Nat) : Int) = 4294967296 := rfl
theorem or_u32 {x y : Int} (a b i : Nat) (hx : x = ((2 ^ i * a : Nat) : Int)) (hy : y = (b : Int)) (hb : b < 2 ^ i) (h : 2 ^ i * a + b < 4294967296) : bitsOf .or .u32 y x = ((2 ^ i * a + b : Nat) : Int) := by
  subst hx hy
  have e : bitsOf .or .u32 (b : Int) ((2 ^ i * a : Nat) : Int) = IntKind.u32.wrap (((BitVec.ofInt 32 (b : Int) ||| BitVec.ofInt 32 ((2 ^ i * a : Nat) : Int)).toNat : Nat) : Int) := rfl
  rw [e, BitVec.toNat_or, zdx _ _ (by omega), zdx _ _ (by omega), Nat.or_comm, ← Nat.two_pow_add_eq_or_of_lt hb, wrap_u32]
  omega
theorem zhr {k : Nat} (hk : k ≤ 32) : (4294967296 : Nat) = 2 ^ k * 2 ^ (32 - k) := by
  rw [← Nat.pow_add, show k + (32 - k) = 32 by omega]
theorem natNormO (l : List Nat) (hw : wf l) (hl : l.length ≤ 1099511627776) : CallOk Tryz.prog 126 [wl l] [] (.sl ⟨0, 0, 0⟩ 0 0 (nw (val l)).length 1) [⟨0, true, true, ws (nw (val l))⟩] := by
  have c1 := zcj l hl
  have hle := zcg l
  rw [zba hw] at c1 hle
  have c2 := zhz (nw (val l)) 0 (by omega) (by omega)
  refine CallOk.of_wl Tryz.func126 rfl rfl rfl (Nat.le_of_ble_eq_true rfl) ?_
  (repeat (first | with_reducible (first | refine WL.seq ?_ | refine WL.skip ?_ | refine WL.label ?_ | refine WL.block ?_ | refine WL.scope ?_ | refine WL.nilS ?_ | refine WL.reS ?_ | refine WL.exS ?_ | refine WL.nilB ?_ | refine WL.nilT ?_ | refine WL.exit ?_ | refine WL.ret ?_ | refine WL.exT ?_ | refine WL.exB ?_ | refine WL.exN rfl ?_ | refine WL.reT ?_ | refine WL.reB ?_) | ((first | refine WL.reg rfl ?_ | refine WL.regT zai rfl ?_); (conv => { arg 3; simp [prep, prep1] }); (repeat (first | (refine zae ?_ ?_; (focus (simp; done)); (conv => { arg 4; simp (disch := omega)  }); (first | (first | refine zaa ?_ | (refine zac ?_; (conv => { arg 5; simp }))) | ((first | refine zal true rfl rfl ⟨_, Tryz.func154, rfl, rfl⟩ ?_ | refine zal true rfl rfl ⟨_, Tryz.func166, rfl, rfl⟩ ?_); (conv => { arg 6; simp (disch := omega)  }); (first | refine zaf (c1) rfl ?_ | refine zaf (c2) rfl ?_); (conv => { arg 5; simp (disch := omega)  })))) | (refine zab rfl ?_ ?_; (focus (simp; done))))); with_reducible refine zad ?_; (first | refine ⟨rfl, ?_⟩ | refine ⟨by simp [quietB], by simp [quietU], ?_⟩ | skip)) | (refine WL.cond ?_; (conv => { arg 1; simp (disch := omega)  }); with_reducible (first | refine zaj ?_ | refine zak ?_ | refine zag (by omega) ?_ | refine zah (by omega) ?_))))
  refine ⟨[⟨5, 0, 0⟩], ?_⟩
  simp (disch := omega) [idx]
def upL (k : Nat) : List Nat → Nat → List Nat
  | [], h => [h]
  | x :: r, h => (h + x * 2 ^ k % 4294967296) :: upL k r (x * 2 ^ k / 4294967296)
theorem zow (k : Nat) : ∀ (a : List Nat) (h : Nat), val (upL k a h) = h + val a * 2 ^ k
  | [], h => by simp [upL, val]
  | x :: r, h => by
    simp only [upL, val]
    rw [zow k r, Nat.add_mul, Nat.mul_assoc]
    generalize val r * 2 ^ k = v
    omega
theorem zqo {k x : Nat} (hk : k ≤ 32) : x * 2 ^ k % 4294967296 = 2 ^ k * (x % 2 ^ (32 - k)) := by
  rw [zhr hk, Nat.mul_comm x, Nat.mul_mod_mul_left]
theorem zqp {k x : Nat} (hx : x < 4294967296) : x * 2 ^ k / 4294967296 < 2 ^ k := by
  have hp : 0 < 2 ^ k := Nat.pow_pos (by decide)
  rw [Nat.div_lt_iff_lt_mul (by decide), Nat.mul_comm]
  exact Nat.mul_lt_mul_of_pos_left hx hp
theorem zpc {k x h : Nat} (hk : k ≤ 32) (hh : h < 2 ^ k) : 2 ^ k * (x % 2 ^ (32 - k)) + h < 4294967296 := by
  have h1 : x % 2 ^ (32 - k) < 2 ^ (32 - k) := Nat.mod_lt _ (Nat.pow_pos (by decide))
  have h2 : 2 ^ k * (x % 2 ^ (32 - k) + 1) ≤ 2 ^ k * 2 ^ (32 - k) := Nat.mul_le_mul_left _ h1
  rw [← zhr hk, Nat.mul_succ] at h2
  omega
theorem zqm (k : Nat) (hk : k ≤ 32) : ∀ (a : List Nat) (h : Nat), wf a → h < 2 ^ k → wf (upL k a h)
  | [], h, _, hh => by
    have : 2 ^ k ≤ 2 ^ 32 := Nat.pow_le_pow_right (by decide) hk
    simp [upL, wf]; omega
  | x :: r, h, ha, hh => by
    obtain ⟨h1, h2⟩ := wf_cons.1 ha
    refine wf_cons.2 ⟨?_, zqm k hk r _ h2 (zqp h1)⟩
    rw [zqo hk]; have := zpc (x := x) hk hh; omega
theorem zpd (k : Nat) : ∀ (a : List Nat) (h : Nat), (upL k a h).length = a.length + 1
  | [], h => rfl
  | x :: r, h => by simp [upL, zpd k r]
theorem zkp {pre D : List Nat} {i a : Nat} (h : pre.length = i) : (pre ++ a :: D).getD i 0 = a := by
  subst h; simp [List.getD_eq_getElem?_getD]
theorem zpf (a : List Nat) (k : Nat) (ha : wf a) (hk : k < 32) (hl : a.length ≤ 1099511627775) :
    CallOk Tryz.prog 192 [wl a, .int .i64 k] [] (.sl ⟨0, 0, 0⟩ 0 0 (nw (val a * 2 ^ k)).length 1) [⟨0, true, true, ws (nw (val a * 2 ^ k))⟩] := by
  have q1 : mn2 (mx2 (k : Int) 0) 4096 = (k : Int) := by unfold mn2 mx2; split <;> split <;> omega
  have q2 : (k : Int).tdiv 32 = 0 := by have : k / 32 = 0 := by omega
                                        rw [show (k : Int).tdiv 32 = ((k / 32 : Nat) : Int) from rfl, this]; rfl
  have q3 : (k : Int).tmod 32 = (k : Int) := by have : k % 32 = k := by omega
                                                rw [show (k : Int).tmod 32 = ((k % 32 : Nat) : Int) from rfl, this]
  have q4 : ((a.length : Int) + 1).toNat = a.length + 1 := by omega
  have q5 : List.replicate (a.length + 1) (PV.int IntKind.u32 0) = ws ([] ++ 0 :: List.replicate a.length 0) := by simp [ws, List.replicate_succ]
  have hp : 0 < 2 ^ k := Nat.pow_pos (by decide)
  have hp2 : 2 ^ k ≤ 2147483648 := Nat.le_trans (Nat.pow_le_pow_right (by decide) (show k ≤ 31 by omega)) (by decide)
  refine CallOk.of_wl Tryz.func192 rfl rfl rfl (Nat.le_of_ble_eq_true rfl) ?_
  (repeat (first | with_reducible (first | refine WL.seq ?_ | refine WL.skip ?_ | refine WL.label ?_ | refine WL.block ?_ | refine WL.scope ?_ | refine WL.nilS ?_ | refine WL.reS ?_ | refine WL.exS ?_ | refine WL.nilB ?_ | refine WL.nilT ?_ | refine WL.exit ?_ | refine WL.ret ?_ | refine WL.exT ?_ | refine WL.exB ?_ | refine WL.exN rfl ?_ | refine WL.reT ?_ | refine WL.reB ?_) | ((first | refine WL.reg rfl ?_ | refine WL.regT zai rfl ?_); (conv => { arg 3; simp [prep, prep1] }); (repeat (first | (refine zae ?_ ?_; (focus (simp; done)); (conv => { arg 4; simp (disch := omega) [q1, q2, q3, q4, q5] }); (first | (first | refine zaa ?_ | (refine zac ?_; (conv => { arg 5; simp }))))) | (refine zab rfl ?_ ?_; (focus (simp; done))))); with_reducible refine zad ?_; (first | refine ⟨rfl, ?_⟩ | refine ⟨by simp [quietB], by simp [quietU], ?_⟩ | skip)) | (refine WL.cond ?_; (conv => { arg 1; simp (disch := omega) [q1, q2, q3, q4, q5] }); with_reducible (first | refine zaj ?_ | refine zak ?_ | refine zag (by omega) ?_ | refine zah (by omega) ?_))))
  refine WL.loop (fun m s => ∃ (i h : Nat) (pre : List Nat), m = a.length - i ∧ i ≤ a.length ∧ s.frame 5 = .int .i64 0 ∧ s.frame 6 = .int .i64 k ∧ s.frame 7 = .sl ⟨23, 0, 0⟩ 0 0 (a.length + 1) 1 ∧ s.frame 24 = wl a ∧ s.frame 25 = .int .i64 a.length ∧ s.frame 26 = .int .i64 i ∧
      s.store ⟨23, 0, 0⟩ = some ⟨0, true, true, ws (pre ++ h :: List.replicate (a.length - i) 0)⟩ ∧ pre.length = i ∧ h < 2 ^ k ∧ pre ++ upL k (a.drop i) h = upL k a 0) a.length ?_ ?_
  · exact ⟨0, 0, [], rfl, by omega, by simp, by simp, by simp, by simp, by simp, by simp, by simp, rfl, hp, by simp⟩
  rintro m ⟨f, σ, g⟩ ⟨i, h, pre, rfl, hi, h5, h6, h7, h24, h25, h26, hst, hpre, hh, hT⟩
  simp only at h5 h6 h7 h24 h25 h26 hst
  by_cases hi' : i < a.length
  · have hx := zbl ha i
    have hA := zbk hi'
    have hstep : upL k (a.drop i) h = (h + a.getD i 0 * 2 ^ k % 4294967296) :: upL k (a.drop (i + 1)) (a.getD i 0 * 2 ^ k / 4294967296) := by rw [zaz hi']; rfl
    rw [hstep] at hT
    generalize a.getD i 0 = x at *
    obtain ⟨n, hn⟩ : ∃ n, a.length - i = n + 1 := ⟨a.length - i - 1, by omega⟩
    rw [hn, List.replicate_succ] at hst
    have hlo := zqo (k := k) (x := x) (by omega)
    have hs := zpc (k := k) (x := x) (by omega) hh
    have hhi := zqp (k := k) hx
    have hw : x * 2 ^ k < 18446744073709551616 := by
      have := Nat.mul_le_mul (show x ≤ 4294967295 by omega) hp2
      omega
    have hor := or_u32 (x := ((x * 2 ^ k % 4294967296 : Nat) : Int)) (y := (h : Int)) (x % 2 ^ (32 - k)) h k (by rw [hlo]) rfl hh hs
    have e1 : IntKind.u64.wrap ((x : Int) * 2 ^ k) = ((x * 2 ^ k : Nat) : Int) := by
      have e : (x : Int) * 2 ^ k = ((x * 2 ^ k : Nat) : Int) := by push_cast; rfl
      rw [e, zas (by omega)]
    rw [← hlo, Nat.add_comm] at hor
    generalize x * 2 ^ k = w at *
    have r0 : (ws (pre ++ h :: 0 :: List.replicate n 0))[i]? = some (.int .u32 (h : Int)) := by
      rw [zbk (by simp; omega), zkp hpre]
    have hmn : min k 64 = k := by omega
    have s0 := zbm (X := pre ++ h :: 0 :: List.replicate n 0) (i := i) (v := ((h + w % 4294967296 : Nat) : Int)) (by simp; omega) rfl
    rw [zgk hpre] at s0
    have s1 := zbm (X := pre ++ [h + w % 4294967296] ++ 0 :: List.replicate n 0) (i := i + 1) (v := ((w / 4294967296 : Nat) : Int)) (by simp; omega) rfl
    rw [zgk (by simp [hpre])] at s1
    simp only [Int.natCast_add, Int.natCast_emod, Int.natCast_ediv, c32, List.append_assoc, List.cons_append, List.nil_append] at hor s0 s1
    have hw2 : (w : Int) / 4294967296 % 4294967296 = (w : Int) / 4294967296 := by omega
    (repeat (first | with_reducible (first | refine WL.seq ?_ | refine WL.skip ?_ | refine WL.label ?_ | refine WL.block ?_ | refine WL.scope ?_ | refine WL.nilS ?_ | refine WL.reS ?_ | refine WL.exS ?_ | refine WL.nilB ?_ | refine WL.nilT ?_ | refine WL.exit ?_ | refine WL.ret ?_ | refine WL.exT ?_ | refine WL.exB ?_ | refine WL.exN rfl ?_ | refine WL.reT ?_ | refine WL.reB ?_) | ((first | refine WL.reg rfl ?_ | refine WL.regT zai rfl ?_); (conv => { arg 3; simp [prep, prep1] }); (repeat (first | (refine zae ?_ ?_; (focus (simp; done)); (conv => { arg 4; simp (disch := omega) [h25, h26, hi', h24, hA, h6, e1, hmn] }); (first | (first | refine zaa ?_ | (refine zac ?_; (conv => { arg 5; simp }))))) | (refine zab rfl ?_ ?_; (focus (simp; done))))); with_reducible refine zad ?_; (first | refine ⟨rfl, ?_⟩ | refine ⟨by simp [quietB], by simp [quietU], ?_⟩ | skip)) | (refine WL.cond ?_; (conv => { arg 1; simp (disch := omega) [h25, h26, hi', h24, hA, h6, e1, hmn] }); with_reducible (first | refine zaj ?_ | refine zak ?_ | refine zag (by omega) ?_ | refine zah (by omega) ?_))))
    (repeat (first | with_reducible (first | refine WL.seq ?_ | refine WL.skip ?_ | refine WL.label ?_ | refine WL.block ?_ | refine WL.scope ?_ | refine WL.nilS ?_ | refine WL.reS ?_ | refine WL.exS ?_ | refine WL.nilB ?_ | refine WL.nilT ?_ | refine WL.exit ?_ | refine WL.ret ?_ | refine WL.exT ?_ | refine WL.exB ?_ | refine WL.exN rfl ?_ | refine WL.reT ?_ | refine WL.reB ?_) | ((first | refine WL.reg rfl ?_ | refine WL.regT zai rfl ?_); (conv => { arg 3; simp [prep, prep1] }); (repeat (first | (refine zae ?_ ?_; (focus (simp; done)); (conv => { arg 4; simp (disch := omega) [h5, h7, hst, hpre, r0, hor, s0, s1, h26, hw2] }); (first | (first | refine zaa ?_ | (refine zac ?_; (conv => { arg 5; simp }))))) | (refine zab rfl ?_ ?_; (focus (simp; done))))); with_reducible refine zad ?_; (first | refine ⟨rfl, ?_⟩ | refine ⟨by simp [quietB], by simp [quietU], ?_⟩ | skip)) | (refine WL.cond ?_; (conv => { arg 1; simp (disch := omega) [h5, h7, hst, hpre, r0, hor, s0, s1, h26, hw2] }); with_reducible (first | refine zaj ?_ | refine zak ?_ | refine zag (by omega) ?_ | refine zah (by omega) ?_))))
    exact ⟨a.length - (i + 1), by omega, i + 1, w / 4294967296, pre ++ [h + w % 4294967296], rfl, by omega, by simp [h5], by simp [h6], by simp [h7], by simp [h24], by simp [h25], by simp, by
      have : a.length - (i + 1) = n := by omega
      simp [this], by simp [hpre], hhi, by rw [← hT]; simp⟩
  · have hia : i = a.length := by omega
    subst hia
    have hd : a.drop a.length = [] := List.drop_of_length_le (Nat.le_refl _)
    have hp : pre ++ [h] = upL k a 0 := by rw [← hT, hd]; rfl
    rw [Nat.sub_self, List.replicate_zero, hp] at hst
    have hl2 := zpd k a 0
    have hw := zqm k (by omega) a 0 ha (by omega)
    have hv := zow k a 0
    rw [Nat.zero_add] at hv
    generalize upL k a 0 = U at *
    have hn := natNormO U hw (by omega)
    rw [hv] at hn
    rw [← hl2] at h7
    (repeat (first | with_reducible (first | refine WL.seq ?_ | refine WL.skip ?_ | refine WL.label ?_ | refine WL.block ?_ | refine WL.scope ?_ | refine WL.nilS ?_ | refine WL.reS ?_ | refine WL.exS ?_ | refine WL.nilB ?_ | refine WL.nilT ?_ | refine WL.exit ?_ | refine WL.ret ?_ | refine WL.exT ?_ | refine WL.exB ?_ | refine WL.exN rfl ?_ | refine WL.reT ?_ | refine WL.reB ?_) | ((first | refine WL.reg rfl ?_ | refine WL.regT zai rfl ?_); (conv => { arg 3; simp [prep, prep1] }); (repeat (first | (refine zae ?_ ?_; (focus (simp; done)); (conv => { arg 4; simp (disch := omega) [h25, h26, h7, hst, zbc] }); (first | (first | refine zaa ?_ | (refine zac ?_; (conv => { arg 5; simp }))) | (refine zal true rfl rfl ⟨_, Tryz.func126, rfl, rfl⟩ ?_; (conv => { arg 6; simp (disch := omega) [h25, h26, h7, hst, zbc] }); refine zaf (hn) rfl ?_; (conv => { arg 5; simp (disch := omega) [h25, h26, h7, hst, zbc] })))) | (refine zab rfl ?_ ?_; (focus (simp; done))))); with_reducible refine zad ?_; (first | refine ⟨rfl, ?_⟩ | refine ⟨by simp [quietB], by simp [quietU], ?_⟩ | skip)) | (refine WL.cond ?_; (conv => { arg 1; simp (disch := omega) [h25, h26, h7, hst, zbc] }); with_reducible (first | refine zaj ?_ | refine zak ?_ | refine zag (by omega) ?_ | refine zah (by omega) ?_))))
    refine ⟨[⟨56, g 56, 0⟩], ?_⟩
    simp (disch := omega) [idx]
theorem twosUp (a : List Nat) (k : Nat) (ha : wf a) (hk : k < 32) (hl : a.length ≤ 1099511627775) :
    CallOk Tryz.prog 192 [wl a, .int .i64 k] [] (wl (nw (val a * 2 ^ k))) [] := (zpf a k ha hk hl).freeze
def dnL (k : Nat) : List Nat → List Nat
  | [] => []
  | x :: r => (x + 4294967296 * r.headD 0) / 2 ^ k % 4294967296 :: dnL k r
theorem zkv (k : Nat) : ∀ a : List Nat, (dnL k a).length = a.length
  | [] => rfl
  | x :: r => by simp [dnL, zkv k r]
theorem znc (k : Nat) : ∀ a : List Nat, wf (dnL k a)
  | [] => zfk
  | x :: r => wf_cons.2 ⟨Nat.mod_lt _ (by decide), znc k r⟩
theorem dn_step (k x v h v' : Nat) (hk : k < 32) (hx : x < 4294967296) (hv : v = h + 4294967296 * v') : (x + 4294967296 * h) / 2 ^ k % 4294967296 + 4294967296 * (v / 2 ^ k) = (x + 4294967296 * v) / 2 ^ k := by
  have hp : 0 < 2 ^ k := Nat.pow_pos (by decide)
  have hB := zhr (show k ≤ 32 by omega)
  generalize 2 ^ (32 - k) = D at hB
  generalize 2 ^ k = P at *
  have key : ∀ u, (x + 4294967296 * u) / P = 4294967296 * (u / P) + (x + 4294967296 * (u % P)) / P := by
    intro u
    have e : x + 4294967296 * u = (x + 4294967296 * (u % P)) + P * (4294967296 * (u / P)) := by
      have := Nat.div_add_mod u P
      have e2 : P * (4294967296 * (u / P)) = 4294967296 * (P * (u / P)) := Nat.mul_left_comm _ _ _
      omega
    rw [e, Nat.add_mul_div_left _ _ hp, Nat.add_comm]
  have hm : h % P = v % P := by
    rw [hv, hB, Nat.mul_assoc, Nat.add_mul_mod_self_left]
  have hlt : (x + 4294967296 * (v % P)) / P < 4294967296 := by
    have h1 : v % P < P := Nat.mod_lt _ hp
    rw [Nat.div_lt_iff_lt_mul hp]
    have : 4294967296 * (v % P + 1) ≤ 4294967296 * P := Nat.mul_le_mul_left _ h1
    omega
  rw [key h, key v, hm]
  generalize (x + 4294967296 * (v % P)) / P = q at *
  omega
theorem zmi (k : Nat) (hk : k < 32) : ∀ a : List Nat, wf a → val (dnL k a) = val a / 2 ^ k
  | [], _ => by simp [dnL, val]
  | x :: r, ha => by
    obtain ⟨h1, h2⟩ := wf_cons.1 ha
    have ih := zmi k hk r h2
    have hv : val r = r.headD 0 + 4294967296 * val r.tail := by cases r <;> simp [val]
    simp only [dnL, val]
    rw [ih]
    exact dn_step k x (val r) (r.headD 0) (val r.tail) hk h1 hv
theorem twosDown (a : List Nat) (k : Nat) (ha : wf a) (hk : k < 32) (hl : a.length ≤ 1099511627775) :
    CallOk Tryz.prog 194 [wl a, .int .i64 k] [] (wl (nw (val a / 2 ^ k))) [] := by
  have q1 : mx2 (k : Int) 0 = (k : Int) := by unfold mx2; split <;> omega
  have q2 : (k : Int).tdiv 32 = 0 := by
    have : k / 32 = 0 := by omega
    rw [show (k : Int).tdiv 32 = ((k / 32 : Nat) : Int) from rfl, this]; rfl
  have q3 : (k : Int).tmod 32 = (k : Int) := by
    have : k % 32 = k := by omega
    rw [show (k : Int).tmod 32 = ((k % 32 : Nat) : Int) from rfl, this]
  have q5 : List.replicate a.length (PV.int IntKind.u32 0) = ws ([] ++ List.replicate a.length 0) := by simp [ws]
  by_cases h0 : a = []
  · subst h0
    refine CallOk.of_wl Tryz.func194 rfl rfl rfl (Nat.le_of_ble_eq_true rfl) ?_
    (repeat (first | with_reducible (first | refine WL.seq ?_ | refine WL.skip ?_ | refine WL.label ?_ | refine WL.block ?_ | refine WL.scope ?_ | refine WL.nilS ?_ | refine WL.reS ?_ | refine WL.exS ?_ | refine WL.nilB ?_ | refine WL.nilT ?_ | refine WL.exit ?_ | refine WL.ret ?_ | refine WL.exT ?_ | refine WL.exB ?_ | refine WL.exN rfl ?_ | refine WL.reT ?_ | refine WL.reB ?_) | ((first | refine WL.reg rfl ?_ | refine WL.regT zai rfl ?_); (conv => { arg 3; simp [prep, prep1] }); (repeat (first | (refine zae ?_ ?_; (focus (simp; done)); (conv => { arg 4; simp (disch := omega) [q1, q2, q3] }); (first | (first | refine zaa ?_ | (refine zac ?_; (conv => { arg 5; simp }))))) | (refine zab rfl ?_ ?_; (focus (simp; done))))); with_reducible refine zad ?_; (first | refine ⟨rfl, ?_⟩ | refine ⟨by simp [quietB], by simp [quietU], ?_⟩ | skip)) | (refine WL.cond ?_; (conv => { arg 1; simp (disch := omega) [q1, q2, q3] }); with_reducible (first | refine zaj ?_ | refine zak ?_ | refine zag (by omega) ?_ | refine zah (by omega) ?_))))
    refine ⟨[], ?_⟩
    simp (disch := omega) [val, zaw, ws]
  have h0 : 0 < a.length := List.length_pos_iff.2 h0
  refine CallOk.of_wl Tryz.func194 rfl rfl rfl (Nat.le_of_ble_eq_true rfl) ?_
  (repeat (first | with_reducible (first | refine WL.seq ?_ | refine WL.skip ?_ | refine WL.label ?_ | refine WL.block ?_ | refine WL.scope ?_ | refine WL.nilS ?_ | refine WL.reS ?_ | refine WL.exS ?_ | refine WL.nilB ?_ | refine WL.nilT ?_ | refine WL.exit ?_ | refine WL.ret ?_ | refine WL.exT ?_ | refine WL.exB ?_ | refine WL.exN rfl ?_ | refine WL.reT ?_ | refine WL.reB ?_) | ((first | refine WL.reg rfl ?_ | refine WL.regT zai rfl ?_); (conv => { arg 3; simp [prep, prep1] }); (repeat (first | (refine zae ?_ ?_; (focus (simp; done)); (conv => { arg 4; simp (disch := omega) [q1, q2, q3, q5] }); (first | (first | refine zaa ?_ | (refine zac ?_; (conv => { arg 5; simp }))))) | (refine zab rfl ?_ ?_; (focus (simp; done))))); with_reducible refine zad ?_; (first | refine ⟨rfl, ?_⟩ | refine ⟨by simp [quietB], by simp [quietU], ?_⟩ | skip)) | (refine WL.cond ?_; (conv => { arg 1; simp (disch := omega) [q1, q2, q3, q5] }); with_reducible (first | refine zaj ?_ | refine zak ?_ | refine zag (by omega) ?_ | refine zah (by omega) ?_))))
  refine WL.loop (fun m s => ∃ (i : Nat) (pre : List Nat), m = a.length - i ∧ i ≤ a.length ∧ s.frame 0 = wl a ∧ s.frame 5 = .int .i64 0 ∧ s.frame 6 = .int .i64 k ∧ s.frame 7 = .sl ⟨24, 0, 0⟩ 0 0 a.length 1 ∧ s.frame 26 = .int .i64 a.length ∧ s.frame 27 = .int .i64 i ∧
      s.store ⟨24, 0, 0⟩ = some ⟨0, true, true, ws (pre ++ List.replicate (a.length - i) 0)⟩ ∧ pre.length = i ∧ pre ++ dnL k (a.drop i) = dnL k a) a.length ?_ ?_
  · exact ⟨0, [], rfl, by omega, by simp, by simp, by simp, by simp, by simp, by simp, by simp, rfl, by simp⟩
  rintro m ⟨f, σ, g⟩ ⟨i, pre, rfl, hi, h0, h5, h6, h7, h26, h27, hst, hpre, hT⟩
  simp only at h0 h5 h6 h7 h26 h27 hst
  by_cases hi' : i < a.length
  · have hx := zbl ha i
    have hy := zbl ha (i + 1)
    have hA := zbk hi'
    have hB : i + 1 < a.length → (ws a)[i + 1]? = some (w32 (a.getD (i + 1) 0)) := fun h => zbk h
    have hB' : ¬ i + 1 < a.length → a.getD (i + 1) 0 = 0 := fun h => by simp [List.getD_eq_getElem?_getD, List.getElem?_eq_none (Nat.le_of_not_lt h)]
    have hstep : dnL k (a.drop i) = (a.getD i 0 + 4294967296 * a.getD (i + 1) 0) / 2 ^ k % 4294967296 :: dnL k (a.drop (i + 1)) := by rw [zaz hi', dnL, zbb]
    rw [hstep] at hT
    generalize a.getD i 0 = x at *
    generalize a.getD (i + 1) 0 = y at *
    have hor := or_u64' (x := (y : Int) * 4294967296) (y := (x : Int)) y x 32 (by omega) rfl (by omega) (by omega)
    rw [show 2 ^ 32 * y + x = x + 4294967296 * y by omega] at hor
    have hmn : min k 64 = k := by omega
    obtain ⟨n, hn⟩ : ∃ n, a.length - i = n + 1 := ⟨a.length - i - 1, by omega⟩
    rw [hn, List.replicate_succ] at hst
    have e1 : ((x + 4294967296 * y : Nat) : Int) / 2 ^ k % 4294967296 = (((x + 4294967296 * y) / 2 ^ k % 4294967296 : Nat) : Int) := by
      simp
    have s0 := zbm (X := pre ++ 0 :: List.replicate n 0) (i := i) (v := (((x + 4294967296 * y) / 2 ^ k % 4294967296 : Nat) : Int)) (by simp; omega) rfl
    rw [zgk hpre] at s0
    generalize (x + 4294967296 * y) / 2 ^ k % 4294967296 = v at *
    have hpp : (0 : Int) ≤ 2 ^ k := Int.pow_nonneg (by decide)
    (repeat (first | with_reducible (first | refine WL.seq ?_ | refine WL.skip ?_ | refine WL.label ?_ | refine WL.block ?_ | refine WL.scope ?_ | refine WL.nilS ?_ | refine WL.reS ?_ | refine WL.exS ?_ | refine WL.nilB ?_ | refine WL.nilT ?_ | refine WL.exit ?_ | refine WL.ret ?_ | refine WL.exT ?_ | refine WL.exB ?_ | refine WL.exN rfl ?_ | refine WL.reT ?_ | refine WL.reB ?_) | ((first | refine WL.reg rfl ?_ | refine WL.regT zai rfl ?_); (conv => { arg 3; simp [prep, prep1] }); (repeat (first | (refine zae ?_ ?_; (focus (simp; done)); (conv => { arg 4; simp (disch := omega) [h26, h27, hi', h0, h5, hA] }); (first | (first | refine zaa ?_ | (refine zac ?_; (conv => { arg 5; simp }))))) | (refine zab rfl ?_ ?_; (focus (simp; done))))); with_reducible refine zad ?_; (first | refine ⟨rfl, ?_⟩ | refine ⟨by simp [quietB], by simp [quietU], ?_⟩ | skip)) | (refine WL.cond ?_; (conv => { arg 1; simp (disch := omega) [h26, h27, hi', h0, h5, hA] }); with_reducible (first | refine zaj ?_ | refine zak ?_ | refine zag (by omega) ?_ | refine zah (by omega) ?_))))
    refine WL.mid (fun s => s.frame 0 = wl a ∧ s.frame 5 = .int .i64 0 ∧ s.frame 6 = .int .i64 k ∧ s.frame 7 = .sl ⟨24, 0, 0⟩ 0 0 a.length 1 ∧ s.frame 8 = .int .i64 i ∧ s.frame 9 = .int .u64 (x + 4294967296 * y : Nat) ∧ s.frame 26 = .int .i64 a.length ∧ s.frame 27 = .int .i64 i ∧
      s.store ⟨24, 0, 0⟩ = some ⟨0, true, true, ws (pre ++ 0 :: List.replicate n 0)⟩) ?_ ?_
    · refine WL.cond ?_; (conv => { arg 1; simp (disch := omega)  }); (first | refine zop ?_ ?_ | refine zqk ?_ ?_)
      · intro hb
        have hb1 := hB (by omega)
        have hb2 : i + 1 < a.length := by omega
        have hi1 : ((i : Int) + 1).toNat = i + 1 := by omega
        (repeat (first | with_reducible (first | refine WL.seq ?_ | refine WL.skip ?_ | refine WL.label ?_ | refine WL.block ?_ | refine WL.scope ?_ | refine WL.nilS ?_ | refine WL.reS ?_ | refine WL.exS ?_ | refine WL.nilB ?_ | refine WL.nilT ?_ | refine WL.exit ?_ | refine WL.ret ?_ | refine WL.exT ?_ | refine WL.exB ?_ | refine WL.exN rfl ?_ | refine WL.reT ?_ | refine WL.reB ?_) | ((first | refine WL.reg rfl ?_ | refine WL.regT zai rfl ?_); (conv => { arg 3; simp [prep, prep1] }); (repeat (first | (refine zae ?_ ?_; (focus (simp; done)); (conv => { arg 4; simp (disch := omega) [h0, h5, hb1, hor, hb2, hi1] }); (first | (first | refine zaa ?_ | (refine zac ?_; (conv => { arg 5; simp }))))) | (refine zab rfl ?_ ?_; (focus (simp; done))))); with_reducible refine zad ?_; (first | refine ⟨rfl, ?_⟩ | refine ⟨by simp [quietB], by simp [quietU], ?_⟩ | skip)) | (refine WL.cond ?_; (conv => { arg 1; simp (disch := omega) [h0, h5, hb1, hor, hb2, hi1] }); with_reducible (first | refine zaj ?_ | refine zak ?_ | refine zag (by omega) ?_ | refine zah (by omega) ?_))))
        simp [h0, h5, h6, h7, h26, h27, hst]
      · intro hb
        have := hB' (by omega)
        (repeat (first | with_reducible (first | refine WL.seq ?_ | refine WL.skip ?_ | refine WL.label ?_ | refine WL.block ?_ | refine WL.scope ?_ | refine WL.nilS ?_ | refine WL.reS ?_ | refine WL.exS ?_ | refine WL.nilB ?_ | refine WL.nilT ?_ | refine WL.exit ?_ | refine WL.ret ?_ | refine WL.exT ?_ | refine WL.exB ?_ | refine WL.exN rfl ?_ | refine WL.reT ?_ | refine WL.reB ?_) | ((first | refine WL.reg rfl ?_ | refine WL.regT zai rfl ?_); (conv => { arg 3; simp [prep, prep1] }); (repeat (first | (refine zae ?_ ?_; (focus (simp; done)); (conv => { arg 4; simp (disch := omega)  }); (first | (first | refine zaa ?_ | (refine zac ?_; (conv => { arg 5; simp }))))) | (refine zab rfl ?_ ?_; (focus (simp; done))))); with_reducible refine zad ?_; (first | refine ⟨rfl, ?_⟩ | refine ⟨by simp [quietB], by simp [quietU], ?_⟩ | skip)) | (refine WL.cond ?_; (conv => { arg 1; simp (disch := omega)  }); with_reducible (first | refine zaj ?_ | refine zak ?_ | refine zag (by omega) ?_ | refine zah (by omega) ?_))))
        simp [h0, h5, h6, h7, h26, h27, hst, this]
    clear h0 h5 h6 h7 h26 h27 hst
    rintro ⟨f2, σ2, g2⟩ ⟨h0, h5, h6, h7, h8, h9, h26, h27, hst⟩
    simp only at h0 h5 h6 h7 h8 h9 h26 h27 hst
    generalize ((x + 4294967296 * y : Nat) : Int) = z at *
    simp only [List.append_assoc, List.cons_append, List.nil_append] at s0
    (repeat (first | with_reducible (first | refine WL.seq ?_ | refine WL.skip ?_ | refine WL.label ?_ | refine WL.block ?_ | refine WL.scope ?_ | refine WL.nilS ?_ | refine WL.reS ?_ | refine WL.exS ?_ | refine WL.nilB ?_ | refine WL.nilT ?_ | refine WL.exit ?_ | refine WL.ret ?_ | refine WL.exT ?_ | refine WL.exB ?_ | refine WL.exN rfl ?_ | refine WL.reT ?_ | refine WL.reB ?_) | ((first | refine WL.reg rfl ?_ | refine WL.regT zai rfl ?_); (conv => { arg 3; simp [prep, prep1] }); (repeat (first | (refine zae ?_ ?_; (focus (simp; done)); (conv => { arg 4; simp (disch := omega) [h6, h7, h8, h9, hst, hmn, e1, s0, hpre, h27, hpp] }); (first | (first | refine zaa ?_ | (refine zac ?_; (conv => { arg 5; simp }))))) | (refine zab rfl ?_ ?_; (focus (simp; done))))); with_reducible refine zad ?_; (first | refine ⟨rfl, ?_⟩ | refine ⟨by simp [quietB], by simp [quietU], ?_⟩ | skip)) | (refine WL.cond ?_; (conv => { arg 1; simp (disch := omega) [h6, h7, h8, h9, hst, hmn, e1, s0, hpre, h27, hpp] }); with_reducible (first | refine zaj ?_ | refine zak ?_ | refine zag (by omega) ?_ | refine zah (by omega) ?_))))
    exact ⟨a.length - (i + 1), by omega, i + 1, pre ++ [v], rfl, by omega, by simp [h0], by simp [h5], by simp [h6], by simp [h7], by simp [h26], by simp, by
      have : a.length - (i + 1) = n := by omega
      simp [this], by simp [hpre], by rw [← hT]; simp⟩
  · have hia : i = a.length := by omega
    subst hia
    have hd : a.drop a.length = [] := List.drop_of_length_le (Nat.le_refl _)
    have hp : pre = dnL k a := by rw [← hT, hd]; simp [dnL]
    rw [Nat.sub_self, List.replicate_zero, List.append_nil, hp] at hst
    have hl2 := zkv k a
    have hw := znc k a
    have hv := zmi k hk a ha
    generalize dnL k a = U at *
    have hn := zcq U (by omega)
    rw [zba hw, hv] at hn
    rw [← hl2] at h7
    (repeat (first | with_reducible (first | refine WL.seq ?_ | refine WL.skip ?_ | refine WL.label ?_ | refine WL.block ?_ | refine WL.scope ?_ | refine WL.nilS ?_ | refine WL.reS ?_ | refine WL.exS ?_ | refine WL.nilB ?_ | refine WL.nilT ?_ | refine WL.exit ?_ | refine WL.ret ?_ | refine WL.exT ?_ | refine WL.exB ?_ | refine WL.exN rfl ?_ | refine WL.reT ?_ | refine WL.reB ?_) | ((first | refine WL.reg rfl ?_ | refine WL.regT zai rfl ?_); (conv => { arg 3; simp [prep, prep1] }); (repeat (first | (refine zae ?_ ?_; (focus (simp; done)); (conv => { arg 4; simp (disch := omega) [h26, h27, h7, hst, zbc] }); (first | (first | refine zaa ?_ | (refine zac ?_; (conv => { arg 5; simp }))) | (refine zal true rfl rfl ⟨_, Tryz.func126, rfl, rfl⟩ ?_; (conv => { arg 6; simp (disch := omega) [h26, h27, h7, hst, zbc] }); refine zaf (hn) rfl ?_; (conv => { arg 5; simp (disch := omega) [h26, h27, h7, hst, zbc] })))) | (refine zab rfl ?_ ?_; (focus (simp; done))))); with_reducible refine zad ?_; (first | refine ⟨rfl, ?_⟩ | refine ⟨by simp [quietB], by simp [quietU], ?_⟩ | skip)) | (refine WL.cond ?_; (conv => { arg 1; simp (disch := omega) [h26, h27, h7, hst, zbc] }); with_reducible (first | refine zaj ?_ | refine zak ?_ | refine zag (by omega) ?_ | refine zah (by omega) ?_))))
    refine ⟨[], ?_⟩
    simp (disch := omega) 
def macc : List Nat → List Nat → Nat → Nat → List Nat
  | O, [], x, c => c :: O.tail
  | O, y :: A, x, c => (x * y + O.headD 0 + c) % 4294967296 :: macc O.tail A x ((x * y + O.headD 0 + c) / 4294967296)
theorem znw : ∀ (A O : List Nat) (x c : Nat), A.length < O.length → (macc O A x c).length = O.length
  | [], O, x, c, h => by simp [macc]; simp at h; omega
  | y :: A, O, x, c, h => by
    simp only [macc, List.length_cons] at h ⊢
    rw [znw A O.tail x _ (by simp; omega)]
    simp; omega
theorem zgl {x y o c : Nat} (hx : x < 4294967296) (hy : y < 4294967296) (ho : o < 4294967296) (hc : c < 4294967296) : (x * y + o + c) / 4294967296 < 4294967296 := by
  have : x * y ≤ 4294967295 * 4294967295 := Nat.mul_le_mul (by omega) (by omega)
  omega
theorem zec {O : List Nat} (h : wf O) : O.headD 0 < 4294967296 ∧ wf O.tail := by
  cases O with
  | nil => exact ⟨by simp, zfk⟩
  | cons a b => exact wf_cons.1 h
theorem zos : ∀ (A O : List Nat) (x c : Nat), wf A → wf O → x < 4294967296 → c < 4294967296 → wf (macc O A x c)
  | [], O, x, c, _, hO, _, hc => wf_cons.2 ⟨hc, (zec hO).2⟩
  | y :: A, O, x, c, hA, hO, hx, hc => by
    obtain ⟨h1, h2⟩ := wf_cons.1 hA
    obtain ⟨h3, h4⟩ := zec hO
    exact wf_cons.2 ⟨Nat.mod_lt _ (by decide), zos A O.tail x _ h2 h4 hx (zgl hx h1 h3 hc)⟩
theorem znf : ∀ (A O : List Nat) (x c : Nat), val (macc O A x c) + 4294967296 ^ A.length * O.getD A.length 0 = val O + x * val A + c
  | [], O, x, c => by
    cases O with
    | nil => simp [macc, val]
    | cons a b => simp [macc, val]; omega
  | y :: A, O, x, c => by
    have ih := znf A O.tail x ((x * y + O.headD 0 + c) / 4294967296)
    have hv : val O = O.headD 0 + 4294967296 * val O.tail := by cases O <;> simp [val]
    have hg : O.getD (A.length + 1) 0 = O.tail.getD A.length 0 := by cases O <;> simp [List.getD_eq_getElem?_getD]
    simp only [macc, val, List.length_cons, Nat.pow_succ]
    rw [hg, hv, Nat.mul_add, Nat.mul_right_comm, ← Nat.mul_assoc x, Nat.mul_right_comm x]
    generalize val (macc O.tail A x ((x * y + O.headD 0 + c) / 4294967296)) = s at *
    generalize 4294967296 ^ A.length * O.tail.getD A.length 0 = t at *
    generalize x * val A = xa at *
    generalize x * y = p at *
    omega
theorem zdc {P pre D : List Nat} {i a v : Nat} (h : P.length + pre.length = i) : (P ++ (pre ++ a :: D)).set i v = P ++ ((pre ++ [v]) ++ D) := by
  subst h; simp
theorem zhg {P pre D : List Nat} {i : Nat} (h : P.length + pre.length = i) : (P ++ (pre ++ D)).getD i 0 = D.headD 0 := by
  subst h
  rw [← List.append_assoc, List.getD_eq_getElem?_getD, List.getElem?_append_right (by simp)]
  simp [List.headD_eq_head?_getD, List.head?_eq_getElem?]
theorem prodRow (O A : List Nat) (n p x c : Nat) (hn : O.length = n) (hA : wf A) (hO : wf O) (hx : x < 4294967296) (hc : c < 4294967296) (hle : p + A.length < n) (hl : n ≤ 4398046511104) :
    CallOk Tryz.prog 125 [.sl ⟨0, 0, 0⟩ 0 0 n 1, .int .i64 p, wl A, w32 x, w32 c] [⟨0, true, true, ws O⟩] (.tup []) [⟨0, true, true, ws (O.take p ++ macc (O.drop p) A x c)⟩] := by
  refine CallOk.of_wl Tryz.func125 rfl rfl rfl (Nat.le_of_ble_eq_true rfl) ?_
  (repeat (first | with_reducible (first | refine WL.seq ?_ | refine WL.skip ?_ | refine WL.label ?_ | refine WL.block ?_ | refine WL.scope ?_ | refine WL.nilS ?_ | refine WL.reS ?_ | refine WL.exS ?_ | refine WL.nilB ?_ | refine WL.nilT ?_ | refine WL.exit ?_ | refine WL.ret ?_ | refine WL.exT ?_ | refine WL.exB ?_ | refine WL.exN rfl ?_ | refine WL.reT ?_ | refine WL.reB ?_) | ((first | refine WL.reg rfl ?_ | refine WL.regT zai rfl ?_); (conv => { arg 3; simp [prep, prep1] }); (repeat (first | (refine zae ?_ ?_; (focus (simp; done)); (conv => { arg 4; simp (disch := omega)  }); (first | (first | refine zaa ?_ | (refine zac ?_; (conv => { arg 5; simp }))))) | (refine zab rfl ?_ ?_; (focus (simp; done))))); with_reducible refine zad ?_; (first | refine ⟨rfl, ?_⟩ | refine ⟨by simp [quietB], by simp [quietU], ?_⟩ | skip)) | (refine WL.cond ?_; (conv => { arg 1; simp (disch := omega)  }); with_reducible (first | refine zaj ?_ | refine zak ?_ | refine zag (by omega) ?_ | refine zah (by omega) ?_))))
  refine WL.loop (fun m s => ∃ (i c' : Nat) (pre : List Nat), m = A.length - i ∧ i ≤ A.length ∧ s.frame 0 = .sl ⟨0, 0, 0⟩ 0 0 n 1 ∧ s.frame 1 = .int .i64 p ∧ s.frame 2 = wl A ∧ s.frame 3 = w32 x ∧ s.frame 4 = w32 c' ∧ s.frame 12 = wl A ∧ s.frame 13 = .int .i64 A.length ∧ s.frame 14 = .int .i64 i ∧
      s.store ⟨0, 0, 0⟩ = some ⟨0, true, true, ws (O.take p ++ (pre ++ O.drop (p + i)))⟩ ∧ pre.length = i ∧ c' < 4294967296 ∧ pre ++ macc (O.drop (p + i)) (A.drop i) x c' = macc (O.drop p) A x c) A.length ?_ ?_
  · exact ⟨0, c, [], rfl, by omega, by simp, by simp, by simp, by simp, by simp, by simp, by simp, by simp, by simp [stOf], rfl, hc, by simp⟩
  rintro m ⟨f, σ, g⟩ ⟨i, c', pre, rfl, hi, h0, h1, h2, h3, h4, h12, h13, h14, hst, hpre, hc', hT⟩
  simp only at h0 h1 h2 h3 h4 h12 h13 h14 hst
  have htp : (O.take p).length = p := by simp; omega
  by_cases hi' : i < A.length
  · have hy := zbl hA i
    have ho := zbl hO (p + i)
    have hA' := zbk hi'
    have hd := zaz (X := O) (i := p + i) (by omega)
    have hstep : macc (O.drop (p + i)) (A.drop i) x c' = (x * A.getD i 0 + O.getD (p + i) 0 + c') % 4294967296 :: macc (O.drop (p + (i + 1))) (A.drop (i + 1)) x ((x * A.getD i 0 + O.getD (p + i) 0 + c') / 4294967296) := by
      rw [zaz hi', macc, zbb, List.tail_drop, show p + i + 1 = p + (i + 1) by omega]
    rw [hstep] at hT
    have hcall := zmt x (A.getD i 0) (O.getD (p + i) 0) c' hx hy ho hc'
    have hcy := zgl hx hy ho hc'
    have r0 : (ws (O.take p ++ (pre ++ O.drop (p + i))))[p + i]? = some (.int .u32 (O.getD (p + i) 0 : Nat)) := by
      rw [zbk (by simp; omega), zhg (by rw [htp, hpre]), zbb]
    rw [hd] at hst r0
    have s0 := zbm (X := O.take p ++ (pre ++ O.getD (p + i) 0 :: O.drop (p + i + 1))) (i := p + i) (v := (((x * A.getD i 0 + O.getD (p + i) 0 + c') % 4294967296 : Nat) : Int)) (by simp; omega) rfl
    rw [zdc (by rw [htp, hpre])] at s0
    generalize A.getD i 0 = y at *
    generalize O.getD (p + i) 0 = o at *
    generalize (x * y + o + c') / 4294967296 = c2 at *
    generalize (x * y + o + c') % 4294967296 = v at *
    have ht : ((p : Int) + i).toNat = p + i := by omega
    have hlen : p + i < p + (pre.length + (1 + (O.length - (p + i + 1)))) := by omega
    simp only [List.append_assoc, List.cons_append, List.nil_append] at s0
    have hpi : p + i < n := by omega
    (repeat (first | with_reducible (first | refine WL.seq ?_ | refine WL.skip ?_ | refine WL.label ?_ | refine WL.block ?_ | refine WL.scope ?_ | refine WL.nilS ?_ | refine WL.reS ?_ | refine WL.exS ?_ | refine WL.nilB ?_ | refine WL.nilT ?_ | refine WL.exit ?_ | refine WL.ret ?_ | refine WL.exT ?_ | refine WL.exB ?_ | refine WL.exN rfl ?_ | refine WL.reT ?_ | refine WL.reB ?_) | ((first | refine WL.reg rfl ?_ | refine WL.regT zai rfl ?_); (conv => { arg 3; simp [prep, prep1] }); (repeat (first | (refine zae ?_ ?_; (focus (simp; done)); (conv => { arg 4; simp (disch := omega) [h13, h14, hi', h12, hA', h0, h1, h2, h3, h4, hst, r0, s0, hpre, htp, ht, hpi] }); (first | (first | refine zaa ?_ | (refine zac ?_; (conv => { arg 5; simp }))) | (refine zal true rfl rfl ⟨_, Tryz.func165, rfl, rfl⟩ ?_; (conv => { arg 6; simp (disch := omega) [h13, h14, hi', h12, hA', h0, h1, h2, h3, h4, hst, r0, s0, hpre, htp, ht, hpi] }); refine zaf (hcall) rfl ?_; (conv => { arg 5; simp (disch := omega) [h13, h14, hi', h12, hA', h0, h1, h2, h3, h4, hst, r0, s0, hpre, htp, ht, hpi] })))) | (refine zab rfl ?_ ?_; (focus (simp; done))))); with_reducible refine zad ?_; (first | refine ⟨rfl, ?_⟩ | refine ⟨by simp [quietB], by simp [quietU], ?_⟩ | skip)) | (refine WL.cond ?_; (conv => { arg 1; simp (disch := omega) [h13, h14, hi', h12, hA', h0, h1, h2, h3, h4, hst, r0, s0, hpre, htp, ht, hpi] }); with_reducible (first | refine zaj ?_ | refine zak ?_ | refine zag (by omega) ?_ | refine zah (by omega) ?_))))
    exact ⟨A.length - (i + 1), by omega, i + 1, c2, pre ++ [v], rfl, by omega, by simp [h0], by simp [h1], by simp [h2], by simp [h3], by simp, by simp [h12], by simp [h13], by simp, by simp [Nat.add_assoc], by simp [hpre], hcy, by rw [← hT]; simp⟩
  · have hia : i = A.length := by omega
    subst hia
    have hd := zaz (X := O) (i := p + A.length) (by omega)
    have hd0 : A.drop A.length = [] := List.drop_of_length_le (Nat.le_refl _)
    rw [hd0, hd] at hT
    rw [hd] at hst
    have s0 := zbm (X := O.take p ++ (pre ++ O.getD (p + A.length) 0 :: O.drop (p + A.length + 1))) (i := p + A.length) (v := (c' : Int)) (by simp; omega) rfl
    rw [zdc (by rw [htp, hpre])] at s0
    generalize O.getD (p + A.length) 0 = o at *
    have hT' : pre ++ c' :: O.drop (p + A.length + 1) = macc (O.drop p) A x c := by rw [← hT]; simp [macc]
    simp only [List.append_assoc, List.cons_append, List.nil_append, hT'] at s0
    have ht : ((p : Int) + A.length).toNat = p + A.length := by omega
    have hlen : p + A.length < p + (pre.length + (1 + (O.length - (p + A.length + 1)))) := by omega
    (repeat (first | with_reducible (first | refine WL.seq ?_ | refine WL.skip ?_ | refine WL.label ?_ | refine WL.block ?_ | refine WL.scope ?_ | refine WL.nilS ?_ | refine WL.reS ?_ | refine WL.exS ?_ | refine WL.nilB ?_ | refine WL.nilT ?_ | refine WL.exit ?_ | refine WL.ret ?_ | refine WL.exT ?_ | refine WL.exB ?_ | refine WL.exN rfl ?_ | refine WL.reT ?_ | refine WL.reB ?_) | ((first | refine WL.reg rfl ?_ | refine WL.regT zai rfl ?_); (conv => { arg 3; simp [prep, prep1] }); (repeat (first | (refine zae ?_ ?_; (focus (simp; done)); (conv => { arg 4; simp (disch := omega) [h13, h14, h0, h1, h2, h3, h4, hst, s0, hpre, htp, ht] }); (first | (first | refine zaa ?_ | (refine zac ?_; (conv => { arg 5; simp }))))) | (refine zab rfl ?_ ?_; (focus (simp; done))))); with_reducible refine zad ?_; (first | refine ⟨rfl, ?_⟩ | refine ⟨by simp [quietB], by simp [quietU], ?_⟩ | skip)) | (refine WL.cond ?_; (conv => { arg 1; simp (disch := omega) [h13, h14, h0, h1, h2, h3, h4, hst, s0, hpre, htp, ht] }); with_reducible (first | refine zaj ?_ | refine zak ?_ | refine zag (by omega) ?_ | refine zah (by omega) ?_))))
    refine ⟨[⟨0, 0, 0⟩], ?_⟩
    simp (disch := omega) [s0, hst]
theorem zlt : ∀ (A O : List Nat) (x c j : Nat), A.length < j → (macc O A x c).getD j 0 = O.getD j 0
  | [], O, x, c, j, h => by
    obtain ⟨k, rfl⟩ : ∃ k, j = k + 1 := ⟨j - 1, by simp at h; omega⟩
    cases O <;> simp [macc, List.getD_eq_getElem?_getD]
  | y :: A, O, x, c, j, h => by
    obtain ⟨k, rfl⟩ : ∃ k, j = k + 1 := ⟨j - 1, by simp at h; omega⟩
    have ih := zlt A O.tail x ((x * y + O.headD 0 + c) / 4294967296) k (by simp at h; omega)
    have : O.getD (k + 1) 0 = O.tail.getD k 0 := by cases O <;> simp [List.getD_eq_getElem?_getD]
    rw [this, ← ih]
    simp [macc, List.getD_eq_getElem?_getD]
theorem zgm (X : List Nat) (i j : Nat) : (X.drop i).getD j 0 = X.getD (i + j) 0 := by
  simp [List.getD_eq_getElem?_getD]
theorem zbq {P D : List Nat} {j : Nat} (h : P.length ≤ j) : (P ++ D).getD j 0 = D.getD (j - P.length) 0 := by
  rw [List.getD_eq_getElem?_getD, List.getElem?_append_right h, List.getD_eq_getElem?_getD]
theorem zed {b : List Nat} {i : Nat} (h : i < b.length) : val (b.take (i + 1)) = val (b.take i) + 4294967296 ^ i * b.getD i 0 := by
  rw [List.take_succ_eq_append_getElem h, zdn, List.length_take, Nat.min_eq_left (by omega)]
  simp [val, List.getD_eq_getElem?_getD, h]
theorem zce (n : Nat) : val (List.replicate n 0) = 0 := by
  induction n with
  | zero => rfl
  | succ n ih => simp [List.replicate_succ, val, ih]
theorem zck (n : Nat) : wf (List.replicate n 0) := by
  intro x hx; have := (List.mem_replicate.1 hx).2; omega
theorem zcw (n j : Nat) : (List.replicate n 0).getD j 0 = 0 := by
  rw [List.getD_eq_getElem?_getD, List.getElem?_replicate]; split <;> rfl
theorem zir {a b : List Nat} (h : wf a) (k : wf b) : wf (a ++ b) := by
  intro x hx; rcases List.mem_append.1 hx with hx | hx
  · exact h x hx
  · exact k x hx
theorem zdm {a : List Nat} (h : wf a) (n : Nat) : wf (a.take n) := fun x hx => h x (List.mem_of_mem_take hx)
theorem zhn {a : List Nat} (h : wf a) (n : Nat) : wf (a.drop n) := fun x hx => h x (List.mem_of_mem_drop hx)
theorem zef (X : List Nat) (i : Nat) (h : i ≤ X.length) : val X = val (X.take i) + 4294967296 ^ i * val (X.drop i) := by
  conv => lhs; rw [← List.take_append_drop i X, zdn, List.length_take, Nat.min_eq_left h]
theorem zhy (a b : List Nat) (ha : wf a) (hb : wf b) (hl : a.length + b.length ≤ 1099511627775) :
    CallOk Tryz.prog 84 [wl a, wl b] [] (wl (nw (val a * val b))) [] := by
  have q4 : ((a.length : Int) + b.length + 1).toNat = a.length + b.length + 1 := by omega
  have q5 : List.replicate (a.length + b.length + 1) (PV.int IntKind.u32 0) = ws (List.replicate (a.length + b.length + 1) 0) := by simp [ws]
  refine CallOk.of_wl Tryz.func84 rfl rfl rfl (Nat.le_of_ble_eq_true rfl) ?_
  (repeat (first | with_reducible (first | refine WL.seq ?_ | refine WL.skip ?_ | refine WL.label ?_ | refine WL.block ?_ | refine WL.scope ?_ | refine WL.nilS ?_ | refine WL.reS ?_ | refine WL.exS ?_ | refine WL.nilB ?_ | refine WL.nilT ?_ | refine WL.exit ?_ | refine WL.ret ?_ | refine WL.exT ?_ | refine WL.exB ?_ | refine WL.exN rfl ?_ | refine WL.reT ?_ | refine WL.reB ?_) | ((first | refine WL.reg rfl ?_ | refine WL.regT zai rfl ?_); (conv => { arg 3; simp [prep, prep1] }); (repeat (first | (refine zae ?_ ?_; (focus (simp; done)); (conv => { arg 4; simp (disch := omega) [q4, q5] }); (first | (first | refine zaa ?_ | (refine zac ?_; (conv => { arg 5; simp }))))) | (refine zab rfl ?_ ?_; (focus (simp; done))))); with_reducible refine zad ?_; (first | refine ⟨rfl, ?_⟩ | refine ⟨by simp [quietB], by simp [quietU], ?_⟩ | skip)) | (refine WL.cond ?_; (conv => { arg 1; simp (disch := omega) [q4, q5] }); with_reducible (first | refine zaj ?_ | refine zak ?_ | refine zag (by omega) ?_ | refine zah (by omega) ?_))))
  refine WL.loop (fun m s => ∃ (i : Nat) (X : List Nat), m = b.length - i ∧ i ≤ b.length ∧ s.frame 0 = wl a ∧ s.frame 5 = .sl ⟨14, 0, 0⟩ 0 0 (a.length + b.length + 1) 1 ∧ s.frame 15 = wl b ∧ s.frame 16 = .int .i64 b.length ∧ s.frame 17 = .int .i64 i ∧
      s.store ⟨14, 0, 0⟩ = some ⟨0, true, true, ws X⟩ ∧ X.length = a.length + b.length + 1 ∧ wf X ∧ val X = val a * val (b.take i) ∧ ∀ j, a.length + i ≤ j → X.getD j 0 = 0) b.length ?_ ?_
  · exact ⟨0, List.replicate (a.length + b.length + 1) 0, by omega, by omega, by simp, by simp, by simp, by simp, by simp, by simp, by simp, zck _, by rw [zce]; simp [val], fun j _ => zcw _ _⟩
  rintro m ⟨f, σ, g⟩ ⟨i, X, rfl, hi, h0, h5, h15, h16, h17, hst, hX, hw, hv, hz⟩
  simp only at h0 h5 h15 h16 h17 hst
  by_cases hi' : i < b.length
  · have hB := zbk hi'
    have hx := zbl hb i
    have hcall := prodRow X a (a.length + b.length + 1) i (b.getD i 0) 0 hX ha hw hx (by omega) (by omega) (by omega)
    have hvt := zed hi'
    have hm := znf a (X.drop i) (b.getD i 0) 0
    rw [zgm, hz (i + a.length) (by omega)] at hm
    have hc := zef X i (by omega)
    have hml := znw a (X.drop i) (b.getD i 0) 0 (by simp; omega)
    have hwm := zos a (X.drop i) (b.getD i 0) 0 ha (zhn hw i) hx (by omega)
    have hmz : ∀ j, a.length < j → (macc (X.drop i) a (b.getD i 0) 0).getD j 0 = X.getD (i + j) 0 := fun j hj => by rw [zlt _ _ _ _ _ hj, zgm]
    have htl : (X.take i).length = i := by simp; omega
    have hvX := zdn (X.take i) (macc (X.drop i) a (b.getD i 0) 0)
    rw [htl] at hvX
    rw [List.length_drop] at hml
    generalize b.getD i 0 = x at *
    generalize hM : macc (X.drop i) a x 0 = M at *
    (repeat (first | with_reducible (first | refine WL.seq ?_ | refine WL.skip ?_ | refine WL.label ?_ | refine WL.block ?_ | refine WL.scope ?_ | refine WL.nilS ?_ | refine WL.reS ?_ | refine WL.exS ?_ | refine WL.nilB ?_ | refine WL.nilT ?_ | refine WL.exit ?_ | refine WL.ret ?_ | refine WL.exT ?_ | refine WL.exB ?_ | refine WL.exN rfl ?_ | refine WL.reT ?_ | refine WL.reB ?_) | ((first | refine WL.reg rfl ?_ | refine WL.regT zai rfl ?_); (conv => { arg 3; simp [prep, prep1] }); (repeat (first | (refine zae ?_ ?_; (focus (simp; done)); (conv => { arg 4; simp (disch := omega) [h16, h17, hi', h15, hB] }); (first | (first | refine zaa ?_ | (refine zac ?_; (conv => { arg 5; simp }))))) | (refine zab rfl ?_ ?_; (focus (simp; done))))); with_reducible refine zad ?_; (first | refine ⟨rfl, ?_⟩ | refine ⟨by simp [quietB], by simp [quietU], ?_⟩ | skip)) | (refine WL.cond ?_; (conv => { arg 1; simp (disch := omega) [h16, h17, hi', h15, hB] }); with_reducible (first | refine zaj ?_ | refine zak ?_ | refine zag (by omega) ?_ | refine zah (by omega) ?_))))
    (first | refine WL.reg rfl ?_ | refine WL.regT zai rfl ?_); (conv => { arg 3; simp [prep, prep1] }); (repeat (first | (refine zae ?_ ?_; (focus (simp; done)); (conv => { arg 4; simp (disch := omega) [h5, h0] }); (first | (first | refine zaa ?_ | (refine zac ?_; (conv => { arg 5; simp }))))) | (refine zab rfl ?_ ?_; (focus (simp; done)))))
    refine zbu [⟨14, 0, 0⟩] [] [] true hcall ⟨_, Tryz.func125, rfl, rfl⟩ rfl rfl rfl (by simp (disch := omega) [h0, h5, hst, idx]) (by simp (disch := omega) [hst, hX, idx]) (by simp) (by simp) ?_; (conv => { arg 5; simp (disch := omega)  })
    (repeat (first | (refine zae ?_ ?_; (focus (simp; done)); (conv => { arg 4; simp (disch := omega)  }); (first | refine zaa ?_ | (refine zac ?_; (conv => { arg 5; simp })))) | (refine zab rfl ?_ ?_; (focus (simp; done))))); with_reducible refine zad ?_
    (repeat (first | with_reducible (first | refine WL.seq ?_ | refine WL.skip ?_ | refine WL.label ?_ | refine WL.block ?_ | refine WL.scope ?_ | refine WL.nilS ?_ | refine WL.reS ?_ | refine WL.exS ?_ | refine WL.nilB ?_ | refine WL.nilT ?_ | refine WL.exit ?_ | refine WL.ret ?_ | refine WL.exT ?_ | refine WL.exB ?_ | refine WL.exN rfl ?_ | refine WL.reT ?_ | refine WL.reB ?_) | ((first | refine WL.reg rfl ?_ | refine WL.regT zai rfl ?_); (conv => { arg 3; simp [prep, prep1] }); (repeat (first | (refine zae ?_ ?_; (focus (simp; done)); (conv => { arg 4; simp (disch := omega) [h17] }); (first | (first | refine zaa ?_ | (refine zac ?_; (conv => { arg 5; simp }))))) | (refine zab rfl ?_ ?_; (focus (simp; done))))); with_reducible refine zad ?_; (first | refine ⟨rfl, ?_⟩ | refine ⟨by simp [quietB], by simp [quietU], ?_⟩ | skip)) | (refine WL.cond ?_; (conv => { arg 1; simp (disch := omega) [h17] }); with_reducible (first | refine zaj ?_ | refine zak ?_ | refine zag (by omega) ?_ | refine zah (by omega) ?_))))
    refine ⟨b.length - (i + 1), by omega, i + 1, X.take i ++ M, rfl, by omega, by simp [h0], by simp [h5], by simp [h15], by simp [h16], by simp, by simp, by simp [hml, hX]; omega, zir (zdm hw i) hwm, ?_, ?_⟩
    · rw [hvX, hvt, Nat.mul_add, ← hv, hc]
      have : val M = val (X.drop i) + x * val a := by omega
      rw [this, Nat.mul_add, Nat.add_assoc]
      congr 2
      simp only [Nat.mul_comm, Nat.mul_left_comm, Nat.mul_assoc]
    · intro j hj
      rw [zbq (by rw [htl]; omega), htl, hmz _ (by omega), show i + (j - i) = j by omega]
      exact hz j (by omega)
  · have hia : i = b.length := by omega
    subst hia
    rw [List.take_length] at hv
    have hn := zcq X (by omega)
    rw [zba hw, hv] at hn
    rw [← hX] at h5
    (repeat (first | with_reducible (first | refine WL.seq ?_ | refine WL.skip ?_ | refine WL.label ?_ | refine WL.block ?_ | refine WL.scope ?_ | refine WL.nilS ?_ | refine WL.reS ?_ | refine WL.exS ?_ | refine WL.nilB ?_ | refine WL.nilT ?_ | refine WL.exit ?_ | refine WL.ret ?_ | refine WL.exT ?_ | refine WL.exB ?_ | refine WL.exN rfl ?_ | refine WL.reT ?_ | refine WL.reB ?_) | ((first | refine WL.reg rfl ?_ | refine WL.regT zai rfl ?_); (conv => { arg 3; simp [prep, prep1] }); (repeat (first | (refine zae ?_ ?_; (focus (simp; done)); (conv => { arg 4; simp (disch := omega) [h16, h17, h5, hst, zbc] }); (first | (first | refine zaa ?_ | (refine zac ?_; (conv => { arg 5; simp }))) | (refine zal true rfl rfl ⟨_, Tryz.func126, rfl, rfl⟩ ?_; (conv => { arg 6; simp (disch := omega) [h16, h17, h5, hst, zbc] }); refine zaf (hn) rfl ?_; (conv => { arg 5; simp (disch := omega) [h16, h17, h5, hst, zbc] })))) | (refine zab rfl ?_ ?_; (focus (simp; done))))); with_reducible refine zad ?_; (first | refine ⟨rfl, ?_⟩ | refine ⟨by simp [quietB], by simp [quietU], ?_⟩ | skip)) | (refine WL.cond ?_; (conv => { arg 1; simp (disch := omega) [h16, h17, h5, hst, zbc] }); with_reducible (first | refine zaj ?_ | refine zak ?_ | refine zag (by omega) ?_ | refine zah (by omega) ?_))))
    refine ⟨[], ?_⟩
    simp (disch := omega) 
theorem zii {X : List Nat} {m q : Nat} (h : m < X.length) : (X.set m q).drop m = q :: X.drop (m + 1) := by
  rw [List.drop_eq_getElem_cons (by simpa using h), List.drop_set_of_lt (by omega)]
  simp
theorem zjl {n d q r : Nat} (h : q * d + r = n) (hr : r < d) : q = n / d ∧ r = n % d := by
  subst h
  have hd : 0 < d := by omega
  constructor
  · rw [Nat.add_comm, Nat.add_mul_div_right _ _ hd, Nat.div_eq_of_lt hr, Nat.zero_add]
  · rw [Nat.add_comm, Nat.add_mul_mod_self_right, Nat.mod_eq_of_lt hr]
theorem znr (a : List Nat) (x : Nat) (ha : wf a) (hx0 : 0 < x) (hx : x < 4294967296) (hl : a.length ≤ 1099511627775) :
    CallOk Tryz.prog 180 [wl a, w32 x] [] (.tup [wl (nw (val a / x)), w32 (val a % x), .bool true]) [] := by
  have q5 : List.replicate a.length (PV.int IntKind.u32 0) = ws (List.replicate a.length 0) := by simp [ws]
  have hx1 : ¬ (x : Int) = 0 := by omega
  have hx2 : ¬ x = 0 := by omega
  refine CallOk.of_wl Tryz.func180 rfl rfl rfl (Nat.le_of_ble_eq_true rfl) ?_
  (repeat (first | with_reducible (first | refine WL.seq ?_ | refine WL.skip ?_ | refine WL.label ?_ | refine WL.block ?_ | refine WL.scope ?_ | refine WL.nilS ?_ | refine WL.reS ?_ | refine WL.exS ?_ | refine WL.nilB ?_ | refine WL.nilT ?_ | refine WL.exit ?_ | refine WL.ret ?_ | refine WL.exT ?_ | refine WL.exB ?_ | refine WL.exN rfl ?_ | refine WL.reT ?_ | refine WL.reB ?_) | ((first | refine WL.reg rfl ?_ | refine WL.regT zai rfl ?_); (conv => { arg 3; simp [prep, prep1] }); (repeat (first | (refine zae ?_ ?_; (focus (simp; done)); (conv => { arg 4; simp (disch := omega) [q5, hx1, hx2] }); (first | (first | refine zaa ?_ | (refine zac ?_; (conv => { arg 5; simp }))))) | (refine zab rfl ?_ ?_; (focus (simp; done))))); with_reducible refine zad ?_; (first | refine ⟨rfl, ?_⟩ | refine ⟨by simp [quietB], by simp [quietU], ?_⟩ | skip)) | (refine WL.cond ?_; (conv => { arg 1; simp (disch := omega) [q5, hx1, hx2] }); with_reducible (first | refine zaj ?_ | refine zak ?_ | refine zag (by omega) ?_ | refine zah (by omega) ?_))))
  refine WL.loop (fun m s => ∃ (r : Nat) (X : List Nat), m ≤ a.length ∧ s.frame 0 = wl a ∧ s.frame 1 = w32 x ∧ s.frame 4 = .sl ⟨12, 0, 0⟩ 0 0 a.length 1 ∧ s.frame 5 = w32 r ∧ s.frame 7 = .int .i64 ((m : Int) - 1) ∧
      s.store ⟨12, 0, 0⟩ = some ⟨0, true, true, ws X⟩ ∧ X.length = a.length ∧ wf (X.drop m) ∧ r < x ∧ val (X.drop m) * x + r = val (a.drop m)) a.length ?_ ?_
  · refine ⟨0, List.replicate a.length 0, by omega, by simp, by simp, by simp, by simp, by simp, by simp, by simp, zhn (zck _) _, hx0, ?_⟩
    rw [List.drop_of_length_le (by simp), List.drop_of_length_le (by simp)]; simp [val]
  rintro m ⟨f, σ, g⟩ ⟨r, X, hm, h0, h1, h4, h5, h7, hst, hX, hw, hr, hv⟩
  simp only at h0 h1 h4 h5 h7 hst
  cases m with
  | zero =>
    simp only [List.drop_zero] at hv hw
    obtain ⟨e1, e2⟩ := zjl hv hr
    have hn := zcq X (by omega)
    rw [zba hw, e1] at hn
    rw [← hX] at h4
    (repeat (first | with_reducible (first | refine WL.seq ?_ | refine WL.skip ?_ | refine WL.label ?_ | refine WL.block ?_ | refine WL.scope ?_ | refine WL.nilS ?_ | refine WL.reS ?_ | refine WL.exS ?_ | refine WL.nilB ?_ | refine WL.nilT ?_ | refine WL.exit ?_ | refine WL.ret ?_ | refine WL.exT ?_ | refine WL.exB ?_ | refine WL.exN rfl ?_ | refine WL.reT ?_ | refine WL.reB ?_) | ((first | refine WL.reg rfl ?_ | refine WL.regT zai rfl ?_); (conv => { arg 3; simp [prep, prep1] }); (repeat (first | (refine zae ?_ ?_; (focus (simp; done)); (conv => { arg 4; simp (disch := omega) [h7, h4, h5, hst, zbc] }); (first | (first | refine zaa ?_ | (refine zac ?_; (conv => { arg 5; simp }))) | (refine zal true rfl rfl ⟨_, Tryz.func126, rfl, rfl⟩ ?_; (conv => { arg 6; simp (disch := omega) [h7, h4, h5, hst, zbc] }); refine zaf (hn) rfl ?_; (conv => { arg 5; simp (disch := omega) [h7, h4, h5, hst, zbc] })))) | (refine zab rfl ?_ ?_; (focus (simp; done))))); with_reducible refine zad ?_; (first | refine ⟨rfl, ?_⟩ | refine ⟨by simp [quietB], by simp [quietU], ?_⟩ | skip)) | (refine WL.cond ?_; (conv => { arg 1; simp (disch := omega) [h7, h4, h5, hst, zbc] }); with_reducible (first | refine zaj ?_ | refine zak ?_ | refine zag (by omega) ?_ | refine zah (by omega) ?_))))
    refine ⟨[], ?_⟩
    simp (disch := omega) [e2]
  | succ m =>
    have hma : m < a.length := by omega
    have hA := zbk hma
    have hy := zbl ha m
    have h7 : f 7 = .int .i64 (m : Int) := by rw [h7]; simp
    have hcall := zpv r (a.getD m 0) x hx hy hr
    have s0 := zbm (X := X) (i := m) (v := (((r * 4294967296 + a.getD m 0) / x : Nat) : Int)) (by omega) rfl
    have hd := zii (X := X) (m := m) (q := (r * 4294967296 + a.getD m 0) / x) (by omega)
    have hda := zaz hma
    have hlt : (r * 4294967296 + a.getD m 0) / x < 4294967296 := Nat.div_lt_of_lt_mul (by
      have : (r + 1) * 4294967296 ≤ x * 4294967296 := Nat.mul_le_mul_right _ hr
      omega)
    have hr' : (r * 4294967296 + a.getD m 0) % x < x := Nat.mod_lt _ hx0
    have hdm := Nat.div_add_mod (r * 4294967296 + a.getD m 0) x
    generalize a.getD m 0 = y at *
    generalize (r * 4294967296 + y) / x = q at *
    generalize (r * 4294967296 + y) % x = r' at *
    have hmX : m < X.length := by omega
    (repeat (first | with_reducible (first | refine WL.seq ?_ | refine WL.skip ?_ | refine WL.label ?_ | refine WL.block ?_ | refine WL.scope ?_ | refine WL.nilS ?_ | refine WL.reS ?_ | refine WL.exS ?_ | refine WL.nilB ?_ | refine WL.nilT ?_ | refine WL.exit ?_ | refine WL.ret ?_ | refine WL.exT ?_ | refine WL.exB ?_ | refine WL.exN rfl ?_ | refine WL.reT ?_ | refine WL.reB ?_) | ((first | refine WL.reg rfl ?_ | refine WL.regT zai rfl ?_); (conv => { arg 3; simp [prep, prep1] }); (repeat (first | (refine zae ?_ ?_; (focus (simp; done)); (conv => { arg 4; simp (disch := omega) [h7, h4, h5, h0, h1, hst, hA, s0, hX] }); (first | (first | refine zaa ?_ | (refine zac ?_; (conv => { arg 5; simp }))) | (refine zal true rfl rfl ⟨_, Tryz.func209, rfl, rfl⟩ ?_; (conv => { arg 6; simp (disch := omega) [h7, h4, h5, h0, h1, hst, hA, s0, hX] }); refine zaf (hcall) rfl ?_; (conv => { arg 5; simp (disch := omega) [h7, h4, h5, h0, h1, hst, hA, s0, hX] })))) | (refine zab rfl ?_ ?_; (focus (simp; done))))); with_reducible refine zad ?_; (first | refine ⟨rfl, ?_⟩ | refine ⟨by simp [quietB], by simp [quietU], ?_⟩ | skip)) | (refine WL.cond ?_; (conv => { arg 1; simp (disch := omega) [h7, h4, h5, h0, h1, hst, hA, s0, hX] }); with_reducible (first | refine zaj ?_ | refine zak ?_ | refine zag (by omega) ?_ | refine zah (by omega) ?_))))
    refine ⟨m, by omega, r', X.set m q, by omega, by simp [h0], by simp [h1], by simp [h4], by simp, by simp, by simp, by simp [hX], ?_, hr', ?_⟩
    · rw [hd]; exact wf_cons.2 ⟨hlt, hw⟩
    · rw [hd, hda]; simp only [val]
      rw [← hv, Nat.add_mul, Nat.mul_assoc, Nat.mul_add, Nat.mul_comm q x]
      omega
def guessN (a2 a1 a0 b1 b0 : Nat) : Nat := min 4294967295 (((a2 * 4294967296 + a1) * 4294967296 + a0) / (b1 * 4294967296 + b0))
theorem zko {a2 a1 a0 b1 b0 q r : Nat} (h : q * b1 + r = a2 * 4294967296 + a1) (hb : 0 < b1) (hq : q ≤ 4294967295) (hc : q * b0 ≤ r * 4294967296 + a0) : q ≤ guessN a2 a1 a0 b1 b0 := by
  refine Nat.le_min.2 ⟨hq, (Nat.le_div_iff_mul_le (by omega)).2 ?_⟩
  rw [← h, Nat.mul_add, Nat.add_mul, Nat.mul_assoc]
  omega
theorem guess_lt {a2 a1 a0 b1 b0 q r : Nat} (h : q * b1 + r = a2 * 4294967296 + a1) (hb : 0 < b1) (hc : r * 4294967296 + a0 < q * b0) : guessN a2 a1 a0 b1 b0 < q := by
  refine Nat.lt_of_le_of_lt (Nat.min_le_right _ _) ((Nat.div_lt_iff_lt_mul (by omega)).2 ?_)
  rw [← h, Nat.mul_add, Nat.add_mul, Nat.mul_assoc]
  omega
theorem guess_first {a2 a1 a0 b1 b0 q r : Nat} (h : q * b1 + r = a2 * 4294967296 + a1) (hr : r < b1) (ha : a0 < 4294967296) : guessN a2 a1 a0 b1 b0 ≤ q := by
  refine Nat.le_trans (Nat.min_le_right _ _) (Nat.le_of_lt_succ ((Nat.div_lt_iff_lt_mul (by omega)).2 ?_))
  have h1 : a2 * 4294967296 + a1 + 1 ≤ (q + 1) * b1 := by rw [← h, Nat.succ_mul]; omega
  have h2 := Nat.mul_le_mul_right 4294967296 h1
  rw [Nat.mul_add, ← Nat.mul_assoc]
  have : 0 ≤ (q + 1) * b0 := Nat.zero_le _
  show _ < (q + 1) * b1 * 4294967296 + (q + 1) * b0
  omega
theorem zlx (a2 a1 a0 b1 b0 : Nat) : guessN a2 a1 a0 b1 b0 ≤ 4294967295 := Nat.min_le_left _ _
theorem zrk {q b : Nat} (hq : q < 4294967296) (hb : b < 4294967296) : q * b ≤ 18446744065119617025 := Nat.le_trans (Nat.mul_le_mul (show q ≤ 4294967295 by omega) (show b ≤ 4294967295 by omega)) (by decide)
def dq (hi lo y : Nat) : Nat := if hi < y then (hi * 4294967296 + lo) / y else 0
def dr (hi lo y : Nat) : Nat := if hi < y then (hi * 4294967296 + lo) % y else 0
theorem limbDivAny (hi lo y : Nat) (hy : y < 4294967296) (hl : lo < 4294967296) : CallOk Tryz.prog 209 [w32 hi, w32 lo, w32 y] [] (.tup [w32 (dq hi lo y), w32 (dr hi lo y), .bool (decide (hi < y))]) [] := by
  by_cases h : hi < y
  · have := zpv hi lo y hy hl h
    simpa [dq, dr, h] using this
  · have := limbDivNo hi lo y (by omega)
    simpa [dq, dr, h] using this
theorem quotGuess (a2 a1 a0 b1 b0 : Nat) (h2 : a2 ≤ b1) (h1 : a1 < 4294967296) (h0 : a0 < 4294967296) (hb0 : 0 < b1) (hb1 : b1 < 4294967296) (hb : b0 < 4294967296) :
    CallOk Tryz.prog 215 [w32 a2, w32 a1, w32 a0, w32 b1, w32 b0] [] (w32 (guessN a2 a1 a0 b1 b0)) [] := by
  have htop := zlx a2 a1 a0 b1 b0
  have c1 := limbDivAny a2 a1 b1 hb1 h1
  have c2 := zkm a1 b1 0 h1 hb1 (by omega)
  refine CallOk.of_wl Tryz.func215 rfl rfl rfl (Nat.le_of_ble_eq_true rfl) ?_
  (repeat (first | with_reducible (first | refine WL.seq ?_ | refine WL.skip ?_ | refine WL.label ?_ | refine WL.block ?_ | refine WL.scope ?_ | refine WL.nilS ?_ | refine WL.reS ?_ | refine WL.exS ?_ | refine WL.nilB ?_ | refine WL.nilT ?_ | refine WL.exit ?_ | refine WL.ret ?_ | refine WL.exT ?_ | refine WL.exB ?_ | refine WL.exN rfl ?_ | refine WL.reT ?_ | refine WL.reB ?_) | ((first | refine WL.reg rfl ?_ | refine WL.regT zai rfl ?_); (conv => { arg 3; simp [prep, prep1] }); (repeat (first | (refine zae ?_ ?_; (focus (simp; done)); (conv => { arg 4; simp (disch := omega)  }); (first | (first | refine zaa ?_ | (refine zac ?_; (conv => { arg 5; simp }))) | (refine zal true rfl rfl ⟨_, Tryz.func209, rfl, rfl⟩ ?_; (conv => { arg 6; simp (disch := omega)  }); refine zaf (c1) rfl ?_; (conv => { arg 5; simp (disch := omega)  })))) | (refine zab rfl ?_ ?_; (focus (simp; done))))); with_reducible refine zad ?_; (first | refine ⟨rfl, ?_⟩ | refine ⟨by simp [quietB], by simp [quietU], ?_⟩ | skip)) | (refine WL.cond ?_; (conv => { arg 1; simp (disch := omega)  }); with_reducible (first | refine zaj ?_ | refine zak ?_ | refine zag (by omega) ?_ | refine zah (by omega) ?_))))
  refine WL.mid (fun s => ∃ q r : Nat, s.frame 2 = w32 a0 ∧ s.frame 3 = w32 b1 ∧ s.frame 4 = w32 b0 ∧ s.frame 11 = w32 q ∧ s.frame 12 = w32 r ∧ q * b1 + r = a2 * 4294967296 + a1 ∧ r < 4294967296 ∧ q ≤ 4294967295 ∧ guessN a2 a1 a0 b1 b0 ≤ q) ?_ ?_
  · by_cases hlt : a2 < b1
    · (repeat (first | with_reducible (first | refine WL.seq ?_ | refine WL.skip ?_ | refine WL.label ?_ | refine WL.block ?_ | refine WL.scope ?_ | refine WL.nilS ?_ | refine WL.reS ?_ | refine WL.exS ?_ | refine WL.nilB ?_ | refine WL.nilT ?_ | refine WL.exit ?_ | refine WL.ret ?_ | refine WL.exT ?_ | refine WL.exB ?_ | refine WL.exN rfl ?_ | refine WL.reT ?_ | refine WL.reB ?_) | ((first | refine WL.reg rfl ?_ | refine WL.regT zai rfl ?_); (conv => { arg 3; simp [prep, prep1] }); (repeat (first | (refine zae ?_ ?_; (focus (simp; done)); (conv => { arg 4; simp (disch := omega) [hlt] }); (first | (first | refine zaa ?_ | (refine zac ?_; (conv => { arg 5; simp }))))) | (refine zab rfl ?_ ?_; (focus (simp; done))))); with_reducible refine zad ?_; (first | refine ⟨rfl, ?_⟩ | refine ⟨by simp [quietB], by simp [quietU], ?_⟩ | skip)) | (refine WL.cond ?_; (conv => { arg 1; simp (disch := omega) [hlt] }); with_reducible (first | refine zaj ?_ | refine zak ?_ | refine zag (by omega) ?_ | refine zah (by omega) ?_))))
      have hd := Nat.div_add_mod (a2 * 4294967296 + a1) b1
      have hr : (a2 * 4294967296 + a1) % b1 < b1 := Nat.mod_lt _ hb0
      have hq : (a2 * 4294967296 + a1) / b1 < 4294967296 := Nat.div_lt_of_lt_mul (by
        have : (a2 + 1) * 4294967296 ≤ b1 * 4294967296 := Nat.mul_le_mul_right _ hlt
        omega)
      rw [Nat.mul_comm] at hd
      refine ⟨dq a2 a1 b1, dr a2 a1 b1, by simp, by simp, by simp, by simp, by simp, ?_, ?_, ?_, ?_⟩
      · simp only [dq, dr, hlt, if_true]; exact hd
      · simp only [dr, hlt, if_true]; omega
      · simp only [dq, hlt, if_true]; omega
      · simp only [dq, hlt, if_true]; exact guess_first hd hr h0
    · have he : a2 = b1 := by omega
      subst he
      have key : 4294967295 * a2 + (a1 + a2) = a2 * 4294967296 + a1 := by omega
      by_cases hov : a1 + a2 < 4294967296
      · have hz : ((a1 : Int) + a2) / 4294967296 = 0 := by omega
        have hm : ((a1 : Int) + a2) % 4294967296 = a1 + a2 := by omega
        (repeat (first | with_reducible (first | refine WL.seq ?_ | refine WL.skip ?_ | refine WL.label ?_ | refine WL.block ?_ | refine WL.scope ?_ | refine WL.nilS ?_ | refine WL.reS ?_ | refine WL.exS ?_ | refine WL.nilB ?_ | refine WL.nilT ?_ | refine WL.exit ?_ | refine WL.ret ?_ | refine WL.exT ?_ | refine WL.exB ?_ | refine WL.exN rfl ?_ | refine WL.reT ?_ | refine WL.reB ?_) | ((first | refine WL.reg rfl ?_ | refine WL.regT zai rfl ?_); (conv => { arg 3; simp [prep, prep1] }); (repeat (first | (refine zae ?_ ?_; (focus (simp; done)); (conv => { arg 4; simp (disch := omega) [hlt, hz, hm] }); (first | (first | refine zaa ?_ | (refine zac ?_; (conv => { arg 5; simp }))) | (refine zal true rfl rfl ⟨_, Tryz.func195, rfl, rfl⟩ ?_; (conv => { arg 6; simp (disch := omega) [hlt, hz, hm] }); refine zaf (c2) rfl ?_; (conv => { arg 5; simp (disch := omega) [hlt, hz, hm] })))) | (refine zab rfl ?_ ?_; (focus (simp; done))))); with_reducible refine zad ?_; (first | refine ⟨rfl, ?_⟩ | refine ⟨by simp [quietB], by simp [quietU], ?_⟩ | skip)) | (refine WL.cond ?_; (conv => { arg 1; simp (disch := omega) [hlt, hz, hm] }); with_reducible (first | refine zaj ?_ | refine zak ?_ | refine zag (by omega) ?_ | refine zah (by omega) ?_))))
        exact ⟨4294967295, a1 + a2, by simp, by simp, by simp, by simp, by simp [hm], key, hov, Nat.le_refl _, htop⟩
      · have hz : 0 < ((a1 : Int) + a2) / 4294967296 := by omega
        (repeat (first | with_reducible (first | refine WL.seq ?_ | refine WL.skip ?_ | refine WL.label ?_ | refine WL.block ?_ | refine WL.scope ?_ | refine WL.nilS ?_ | refine WL.reS ?_ | refine WL.exS ?_ | refine WL.nilB ?_ | refine WL.nilT ?_ | refine WL.exit ?_ | refine WL.ret ?_ | refine WL.exT ?_ | refine WL.exB ?_ | refine WL.exN rfl ?_ | refine WL.reT ?_ | refine WL.reB ?_) | ((first | refine WL.reg rfl ?_ | refine WL.regT zai rfl ?_); (conv => { arg 3; simp [prep, prep1] }); (repeat (first | (refine zae ?_ ?_; (focus (simp; done)); (conv => { arg 4; simp (disch := omega) [hlt, hz] }); (first | (first | refine zaa ?_ | (refine zac ?_; (conv => { arg 5; simp }))) | (refine zal true rfl rfl ⟨_, Tryz.func195, rfl, rfl⟩ ?_; (conv => { arg 6; simp (disch := omega) [hlt, hz] }); refine zaf (c2) rfl ?_; (conv => { arg 5; simp (disch := omega) [hlt, hz] })))) | (refine zab rfl ?_ ?_; (focus (simp; done))))); with_reducible refine zad ?_; (first | refine ⟨rfl, ?_⟩ | refine ⟨by simp [quietB], by simp [quietU], ?_⟩ | skip)) | (refine WL.cond ?_; (conv => { arg 1; simp (disch := omega) [hlt, hz] }); with_reducible (first | refine zaj ?_ | refine zak ?_ | refine zag (by omega) ?_ | refine zah (by omega) ?_))))
        refine ⟨[], ?_⟩
        have hg : guessN a2 a1 a0 a2 b0 = 4294967295 := by
          have := zko (a0 := a0) (b0 := b0) key hb0 (by omega) (by have := zrk (q := 4294967295) (b := b0) (by omega) hb; omega)
          omega
        simp (disch := omega) [hg]
  · rintro ⟨f, σ, g⟩ ⟨q, r, h2', h3, h4, h11, h12, hqr, hr, hq, ht⟩
    simp only at h2' h3 h4 h11 h12
    (repeat (first | with_reducible (first | refine WL.seq ?_ | refine WL.skip ?_ | refine WL.label ?_ | refine WL.block ?_ | refine WL.scope ?_ | refine WL.nilS ?_ | refine WL.reS ?_ | refine WL.exS ?_ | refine WL.nilB ?_ | refine WL.nilT ?_ | refine WL.exit ?_ | refine WL.ret ?_ | refine WL.exT ?_ | refine WL.exB ?_ | refine WL.exN rfl ?_ | refine WL.reT ?_ | refine WL.reB ?_) | ((first | refine WL.reg rfl ?_ | refine WL.regT zai rfl ?_); (conv => { arg 3; simp [prep, prep1] }); (repeat (first | (refine zae ?_ ?_; (focus (simp; done)); (conv => { arg 4; simp (disch := omega)  }); (first | (first | refine zaa ?_ | (refine zac ?_; (conv => { arg 5; simp }))))) | (refine zab rfl ?_ ?_; (focus (simp; done))))); with_reducible refine zad ?_; (first | refine ⟨rfl, ?_⟩ | refine ⟨by simp [quietB], by simp [quietU], ?_⟩ | skip)) | (refine WL.cond ?_; (conv => { arg 1; simp (disch := omega)  }); with_reducible (first | refine zaj ?_ | refine zak ?_ | refine zag (by omega) ?_ | refine zah (by omega) ?_))))
    refine WL.loop (fun m s => ∃ q r : Nat, m = q ∧ s.frame 2 = w32 a0 ∧ s.frame 3 = w32 b1 ∧ s.frame 4 = w32 b0 ∧ s.frame 11 = w32 q ∧ s.frame 12 = w32 r ∧ q * b1 + r = a2 * 4294967296 + a1 ∧ r < 4294967296 ∧ q ≤ 4294967295 ∧ guessN a2 a1 a0 b1 b0 ≤ q) q ?_ ?_
    · exact ⟨q, r, rfl, by simp [h2'], by simp [h3], by simp [h4], by simp [h11], by simp [h12], hqr, hr, hq, ht⟩
    clear h2' h3 h4 h11 h12 hqr hr hq ht
    rintro m ⟨f, σ, g⟩ ⟨q, r, rfl, h2', h3, h4, h11, h12, hqr, hr, hq, ht⟩
    simp only at h2' h3 h4 h11 h12
    have c3 := zmt m b0 0 0 (by omega) hb (by omega) (by omega)
    have c4 := zkm r b1 0 hr hb1 (by omega)
    have hP := Nat.div_add_mod (m * b0) 4294967296
    have hP0 : (m : Int) * b0 = ((m * b0 : Nat) : Int) := by simp
    have hlo : m * b0 % 4294967296 < 4294967296 := Nat.mod_lt _ (by decide)
    simp only [Nat.add_zero] at c3 c4
    have g1 := zko (a0 := a0) (b0 := b0) hqr hb0 hq
    have g2 := guess_lt (a0 := a0) (b0 := b0) hqr hb0
    have g3 := zrk (q := m - 1) (b := b0) (by omega) hb
    have hm0 : r * 4294967296 + a0 < m * b0 → 0 < m := fun h => by
      rcases Nat.eq_zero_or_pos m with rfl | h'
      · simp at h
      · exact h'
    have gl := @zko a2 a1 a0 b1 b0 (m - 1) (r + b1)
    generalize m * b0 = P at *
    generalize hhi : P / 4294967296 = hi at *
    generalize P % 4294967296 = lo at *
    have split : (hi < r) ∨ (hi = r ∧ lo ≤ a0) ∨ (hi = r ∧ a0 < lo) ∨ r < hi := by omega
    rcases split with h | ⟨h, h'⟩ | ⟨h, h'⟩ | h
    · have hg : guessN a2 a1 a0 b1 b0 = m := by have := g1 (by omega); omega
      (repeat (first | with_reducible (first | refine WL.seq ?_ | refine WL.skip ?_ | refine WL.label ?_ | refine WL.block ?_ | refine WL.scope ?_ | refine WL.nilS ?_ | refine WL.reS ?_ | refine WL.exS ?_ | refine WL.nilB ?_ | refine WL.nilT ?_ | refine WL.exit ?_ | refine WL.ret ?_ | refine WL.exT ?_ | refine WL.exB ?_ | refine WL.exN rfl ?_ | refine WL.reT ?_ | refine WL.reB ?_) | ((first | refine WL.reg rfl ?_ | refine WL.regT zai rfl ?_); (conv => { arg 3; simp [prep, prep1] }); (repeat (first | (refine zae ?_ ?_; (focus (simp; done)); (conv => { arg 4; simp (disch := omega) [h2', h3, h4, h11, h12, h] }); (first | (first | refine zaa ?_ | (refine zac ?_; (conv => { arg 5; simp }))) | (refine zal true rfl rfl ⟨_, Tryz.func165, rfl, rfl⟩ ?_; (conv => { arg 6; simp (disch := omega) [h2', h3, h4, h11, h12, h] }); refine zaf (c3) rfl ?_; (conv => { arg 5; simp (disch := omega) [h2', h3, h4, h11, h12, h] })))) | (refine zab rfl ?_ ?_; (focus (simp; done))))); with_reducible refine zad ?_; (first | refine ⟨rfl, ?_⟩ | refine ⟨by simp [quietB], by simp [quietU], ?_⟩ | skip)) | (refine WL.cond ?_; (conv => { arg 1; simp (disch := omega) [h2', h3, h4, h11, h12, h] }); with_reducible (first | refine zaj ?_ | refine zak ?_ | refine zag (by omega) ?_ | refine zah (by omega) ?_))))
      refine ⟨[], ?_⟩
      simp (disch := omega) [hg]
    · have hg : guessN a2 a1 a0 b1 b0 = m := by have := g1 (by omega); omega
      (repeat (first | with_reducible (first | refine WL.seq ?_ | refine WL.skip ?_ | refine WL.label ?_ | refine WL.block ?_ | refine WL.scope ?_ | refine WL.nilS ?_ | refine WL.reS ?_ | refine WL.exS ?_ | refine WL.nilB ?_ | refine WL.nilT ?_ | refine WL.exit ?_ | refine WL.ret ?_ | refine WL.exT ?_ | refine WL.exB ?_ | refine WL.exN rfl ?_ | refine WL.reT ?_ | refine WL.reB ?_) | ((first | refine WL.reg rfl ?_ | refine WL.regT zai rfl ?_); (conv => { arg 3; simp [prep, prep1] }); (repeat (first | (refine zae ?_ ?_; (focus (simp; done)); (conv => { arg 4; simp (disch := omega) [h2', h3, h4, h11, h12, h, h'] }); (first | (first | refine zaa ?_ | (refine zac ?_; (conv => { arg 5; simp }))) | (refine zal true rfl rfl ⟨_, Tryz.func165, rfl, rfl⟩ ?_; (conv => { arg 6; simp (disch := omega) [h2', h3, h4, h11, h12, h, h'] }); refine zaf (c3) rfl ?_; (conv => { arg 5; simp (disch := omega) [h2', h3, h4, h11, h12, h, h'] })))) | (refine zab rfl ?_ ?_; (focus (simp; done))))); with_reducible refine zad ?_; (first | refine ⟨rfl, ?_⟩ | refine ⟨by simp [quietB], by simp [quietU], ?_⟩ | skip)) | (refine WL.cond ?_; (conv => { arg 1; simp (disch := omega) [h2', h3, h4, h11, h12, h, h'] }); with_reducible (first | refine zaj ?_ | refine zak ?_ | refine zag (by omega) ?_ | refine zah (by omega) ?_))))
      refine ⟨[], ?_⟩
      simp (disch := omega) [hg]
    all_goals by_cases he : hi = r
    all_goals (try (exfalso; omega))
    all_goals
      have hb2 : guessN a2 a1 a0 b1 b0 < m := g2 (by omega)
      have hm1 := hm0 (by omega)
      have hs : ((m : Int) - 1) % 4294967296 = ((m - 1 : Nat) : Int) := by omega
      have hstep : (m - 1) * b1 + (r + b1) = a2 * 4294967296 + a1 := by
        obtain ⟨k, rfl⟩ : ∃ k, m = k + 1 := ⟨m - 1, by omega⟩
        rw [Nat.succ_mul] at hqr
        simp only [Nat.add_sub_cancel]; omega
      by_cases hov : r + b1 < 4294967296
      · have hz : ((r : Int) + b1) / 4294967296 = 0 := by omega
        have hmm : ((r : Int) + b1) % 4294967296 = r + b1 := by omega
        have hnl : ¬ hi < r := by omega
        have hne : ¬ lo ≤ a0 ∨ ¬ hi = r := by omega
        (repeat (first | with_reducible (first | refine WL.seq ?_ | refine WL.skip ?_ | refine WL.label ?_ | refine WL.block ?_ | refine WL.scope ?_ | refine WL.nilS ?_ | refine WL.reS ?_ | refine WL.exS ?_ | refine WL.nilB ?_ | refine WL.nilT ?_ | refine WL.exit ?_ | refine WL.ret ?_ | refine WL.exT ?_ | refine WL.exB ?_ | refine WL.exN rfl ?_ | refine WL.reT ?_ | refine WL.reB ?_) | ((first | refine WL.reg rfl ?_ | refine WL.regT zai rfl ?_); (conv => { arg 3; simp [prep, prep1] }); (repeat (first | (refine zae ?_ ?_; (focus (simp; done)); (conv => { arg 4; simp (disch := omega) [h2', h3, h4, h11, h12, he, hnl, hz, hmm, hs] }); (first | (first | refine zaa ?_ | (refine zac ?_; (conv => { arg 5; simp }))) | ((first | refine zal true rfl rfl ⟨_, Tryz.func165, rfl, rfl⟩ ?_ | refine zal true rfl rfl ⟨_, Tryz.func195, rfl, rfl⟩ ?_); (conv => { arg 6; simp (disch := omega) [h2', h3, h4, h11, h12, he, hnl, hz, hmm, hs] }); (first | refine zaf (c3) rfl ?_ | refine zaf (c4) rfl ?_); (conv => { arg 5; simp (disch := omega) [h2', h3, h4, h11, h12, he, hnl, hz, hmm, hs] })))) | (refine zab rfl ?_ ?_; (focus (simp; done))))); with_reducible refine zad ?_; (first | refine ⟨rfl, ?_⟩ | refine ⟨by simp [quietB], by simp [quietU], ?_⟩ | skip)) | (refine WL.cond ?_; (conv => { arg 1; simp (disch := omega) [h2', h3, h4, h11, h12, he, hnl, hz, hmm, hs] }); with_reducible (first | refine zaj ?_ | refine zak ?_ | refine zag (by omega) ?_ | refine zah (by omega) ?_))))
        exact ⟨m - 1, by omega, m - 1, r + b1, rfl, by simp [h2'], by simp [h3], by simp [h4], by simp, by simp, hstep, hov, by omega, by omega⟩
      · have hz : 0 < ((r : Int) + b1) / 4294967296 := by omega
        have hnl : ¬ hi < r := by omega
        have hg : guessN a2 a1 a0 b1 b0 = m - 1 := by
          have := gl hstep hb0 (by omega) (by omega)
          omega
        (repeat (first | with_reducible (first | refine WL.seq ?_ | refine WL.skip ?_ | refine WL.label ?_ | refine WL.block ?_ | refine WL.scope ?_ | refine WL.nilS ?_ | refine WL.reS ?_ | refine WL.exS ?_ | refine WL.nilB ?_ | refine WL.nilT ?_ | refine WL.exit ?_ | refine WL.ret ?_ | refine WL.exT ?_ | refine WL.exB ?_ | refine WL.exN rfl ?_ | refine WL.reT ?_ | refine WL.reB ?_) | ((first | refine WL.reg rfl ?_ | refine WL.regT zai rfl ?_); (conv => { arg 3; simp [prep, prep1] }); (repeat (first | (refine zae ?_ ?_; (focus (simp; done)); (conv => { arg 4; simp (disch := omega) [h2', h3, h4, h11, h12, he, hnl, hz, hs] }); (first | (first | refine zaa ?_ | (refine zac ?_; (conv => { arg 5; simp }))) | ((first | refine zal true rfl rfl ⟨_, Tryz.func165, rfl, rfl⟩ ?_ | refine zal true rfl rfl ⟨_, Tryz.func195, rfl, rfl⟩ ?_); (conv => { arg 6; simp (disch := omega) [h2', h3, h4, h11, h12, he, hnl, hz, hs] }); (first | refine zaf (c3) rfl ?_ | refine zaf (c4) rfl ?_); (conv => { arg 5; simp (disch := omega) [h2', h3, h4, h11, h12, he, hnl, hz, hs] })))) | (refine zab rfl ?_ ?_; (focus (simp; done))))); with_reducible refine zad ?_; (first | refine ⟨rfl, ?_⟩ | refine ⟨by simp [quietB], by simp [quietU], ?_⟩ | skip)) | (refine WL.cond ?_; (conv => { arg 1; simp (disch := omega) [h2', h3, h4, h11, h12, he, hnl, hz, hs] }); with_reducible (first | refine zaj ?_ | refine zak ?_ | refine zag (by omega) ?_ | refine zah (by omega) ?_))))
        refine ⟨[], ?_⟩
        simp (disch := omega) [hg]
def tkL : List Nat → List Nat → Nat → Nat → Nat → List Nat
  | O, [], x, c, w => (O.headD 0 + 4294967296 - c - w) % 4294967296 :: O.tail
  | O, y :: b, x, c, w => (O.headD 0 + 4294967296 - (x * y + c) % 4294967296 - w) % 4294967296 :: tkL O.tail b x ((x * y + c) / 4294967296) (if O.headD 0 < (x * y + c) % 4294967296 + w then 1 else 0)
def tkW : List Nat → List Nat → Nat → Nat → Nat → Nat
  | O, [], x, c, w => if O.headD 0 < c + w then 1 else 0
  | O, y :: b, x, c, w => tkW O.tail b x ((x * y + c) / 4294967296) (if O.headD 0 < (x * y + c) % 4294967296 + w then 1 else 0)
theorem zpg : ∀ (b O : List Nat) (x c w : Nat), b.length < O.length → (tkL O b x c w).length = O.length
  | [], O, x, c, w, h => by simp [tkL]; simp at h; omega
  | y :: b, O, x, c, w, h => by
    simp only [tkL, List.length_cons] at h ⊢
    rw [zpg b O.tail x _ _ (by simp; omega)]
    simp; omega
theorem zor : ∀ (b O : List Nat) (x c w : Nat), wf O → wf (tkL O b x c w)
  | [], O, x, c, w, hO => wf_cons.2 ⟨Nat.mod_lt _ (by decide), (zec hO).2⟩
  | y :: b, O, x, c, w, hO => wf_cons.2 ⟨Nat.mod_lt _ (by decide), zor b O.tail x _ _ (zec hO).2⟩
theorem zqq : ∀ (b O : List Nat) (x c w : Nat), tkW O b x c w ≤ 1
  | [], O, x, c, w => by unfold tkW; split <;> omega
  | y :: b, O, x, c, w => zqq b O.tail x _ _
theorem zle (O : List Nat) : val O = O.headD 0 + 4294967296 * val O.tail := by cases O <;> simp [val]
theorem zls {x y c : Nat} (hx : x < 4294967296) (hy : y < 4294967296) (hc : c < 4294967296) : (x * y + c) / 4294967296 < 4294967296 := by
  have : x * y ≤ 4294967295 * 4294967295 := Nat.mul_le_mul (by omega) (by omega)
  omega
theorem zox : ∀ (b O : List Nat) (x c w : Nat), wf b → wf O → x < 4294967296 → c < 4294967296 → w < 2 → b.length < O.length →
    val (tkL O b x c w) + x * val b + c + w = val O + 4294967296 ^ (b.length + 1) * tkW O b x c w
  | [], O, x, c, w, _, hO, hx, hc, hw, _ => by
    obtain ⟨h1, h2⟩ := zec hO
    rw [zle O]
    simp only [tkL, tkW, val, List.length_nil, Nat.zero_add, Nat.pow_one, Nat.mul_zero, Nat.add_zero]
    split <;> omega
  | y :: b, O, x, c, w, hb, hO, hx, hc, hw, hl => by
    obtain ⟨h1, h2⟩ := zec hO
    obtain ⟨h3, h4⟩ := wf_cons.1 hb
    have hcy := zls hx h3 hc
    have ih := zox b O.tail x ((x * y + c) / 4294967296) (if O.headD 0 < (x * y + c) % 4294967296 + w then 1 else 0) h4 h2 hx hcy (by split <;> omega) (by simp at hl ⊢; omega)
    rw [zle O]
    simp only [tkL, tkW, val, List.length_cons]
    rw [Nat.mul_add, ← Nat.mul_assoc x, Nat.mul_right_comm x, Nat.pow_succ _ (b.length + 1), Nat.mul_right_comm _ 4294967296]
    generalize tkW O.tail b x ((x * y + c) / 4294967296) (if O.headD 0 < (x * y + c) % 4294967296 + w then 1 else 0) = tw at *
    generalize val (tkL O.tail b x ((x * y + c) / 4294967296) (if O.headD 0 < (x * y + c) % 4294967296 + w then 1 else 0)) = tv at *
    generalize 4294967296 ^ (b.length + 1) * tw = pw at *
    generalize x * val b = xb at *
    generalize x * y = xy at *
    generalize val O.tail = vt at *
    generalize O.headD 0 = o at *
    split at ih <;> omega
theorem quotTake (v : Nat) (O b : List Nat) (n p x : Nat) (hn : O.length = n) (hb : wf b) (hO : wf O) (hx : x < 4294967296) (hle : p + b.length < n) (hl : n ≤ 4398046511104) :
    CallOk Tryz.prog 216 [.sl ⟨0, 0, 0⟩ v 0 n 1, .int .i64 p, wl b, w32 x] [⟨v, true, true, ws O⟩] (.bool (decide (0 < tkW (O.drop p) b x 0 0))) [⟨v, true, true, ws (O.take p ++ tkL (O.drop p) b x 0 0)⟩] := by
  refine CallOk.of_wl Tryz.func216 rfl rfl rfl (Nat.le_of_ble_eq_true rfl) ?_
  (repeat (first | with_reducible (first | refine WL.seq ?_ | refine WL.skip ?_ | refine WL.label ?_ | refine WL.block ?_ | refine WL.scope ?_ | refine WL.nilS ?_ | refine WL.reS ?_ | refine WL.exS ?_ | refine WL.nilB ?_ | refine WL.nilT ?_ | refine WL.exit ?_ | refine WL.ret ?_ | refine WL.exT ?_ | refine WL.exB ?_ | refine WL.exN rfl ?_ | refine WL.reT ?_ | refine WL.reB ?_) | ((first | refine WL.reg rfl ?_ | refine WL.regT zai rfl ?_); (conv => { arg 3; simp [prep, prep1] }); (repeat (first | (refine zae ?_ ?_; (focus (simp; done)); (conv => { arg 4; simp (disch := omega)  }); (first | (first | refine zaa ?_ | (refine zac ?_; (conv => { arg 5; simp }))))) | (refine zab rfl ?_ ?_; (focus (simp; done))))); with_reducible refine zad ?_; (first | refine ⟨rfl, ?_⟩ | refine ⟨by simp [quietB], by simp [quietU], ?_⟩ | skip)) | (refine WL.cond ?_; (conv => { arg 1; simp (disch := omega)  }); with_reducible (first | refine zaj ?_ | refine zak ?_ | refine zag (by omega) ?_ | refine zah (by omega) ?_))))
  refine WL.loop (fun m s => ∃ (i c w : Nat) (pre : List Nat), m = b.length - i ∧ i ≤ b.length ∧ s.frame 0 = .sl ⟨0, 0, 0⟩ v 0 n 1 ∧ s.frame 1 = .int .i64 p ∧ s.frame 2 = wl b ∧ s.frame 3 = w32 x ∧ s.frame 9 = w32 c ∧ s.frame 10 = w32 w ∧ s.frame 15 = wl b ∧ s.frame 16 = .int .i64 b.length ∧ s.frame 17 = .int .i64 i ∧
      s.store ⟨0, 0, 0⟩ = some ⟨v, true, true, ws (O.take p ++ (pre ++ O.drop (p + i)))⟩ ∧ pre.length = i ∧ c < 4294967296 ∧ w < 2 ∧ pre ++ tkL (O.drop (p + i)) (b.drop i) x c w = tkL (O.drop p) b x 0 0 ∧ tkW (O.drop (p + i)) (b.drop i) x c w = tkW (O.drop p) b x 0 0) b.length ?_ ?_
  · exact ⟨0, 0, 0, [], rfl, by omega, by simp, by simp, by simp, by simp, by simp, by simp, by simp, by simp, by simp, by simp [stOf], rfl, by omega, by omega, by simp, by simp⟩
  rintro m ⟨f, σ, g⟩ ⟨i, c, w, pre, rfl, hi, h0, h1, h2, h3, h9, h10, h15, h16, h17, hst, hpre, hc, hw, hT, hW⟩
  simp only at h0 h1 h2 h3 h9 h10 h15 h16 h17 hst
  have htp : (O.take p).length = p := by simp; omega
  have ho := zbl hO (p + i)
  have hd := zaz (X := O) (i := p + i) (by omega)
  have r0 : (ws (O.take p ++ (pre ++ O.drop (p + i))))[p + i]? = some (.int .u32 (O.getD (p + i) 0 : Nat)) := by
    rw [zbk (by simp; omega), zhg (by rw [htp, hpre]), zbb]
  rw [hd] at hst r0
  have ht : ((p : Int) + i).toNat = p + i := by omega
  have hpi : p + i < n := by omega
  by_cases hi' : i < b.length
  · have hy := zbl hb i
    have hA' := zbk hi'
    have hs1 : tkL (O.drop (p + i)) (b.drop i) x c w = (O.getD (p + i) 0 + 4294967296 - (x * b.getD i 0 + c) % 4294967296 - w) % 4294967296 :: tkL (O.drop (p + (i + 1))) (b.drop (i + 1)) x ((x * b.getD i 0 + c) / 4294967296) (if O.getD (p + i) 0 < (x * b.getD i 0 + c) % 4294967296 + w then 1 else 0) := by
      rw [zaz hi', tkL, zbb, List.tail_drop, show p + i + 1 = p + (i + 1) by omega]
    have hs2 : tkW (O.drop (p + i)) (b.drop i) x c w = tkW (O.drop (p + (i + 1))) (b.drop (i + 1)) x ((x * b.getD i 0 + c) / 4294967296) (if O.getD (p + i) 0 < (x * b.getD i 0 + c) % 4294967296 + w then 1 else 0) := by
      rw [zaz hi', tkW, zbb, List.tail_drop, show p + i + 1 = p + (i + 1) by omega]
    rw [hs1] at hT
    rw [hs2] at hW
    clear hs1 hs2
    have hcall := zmt x (b.getD i 0) c 0 hx hy hc (by omega)
    simp only [Nat.add_zero] at hcall
    have hcy := zls hx hy hc
    have hlo : (x * b.getD i 0 + c) % 4294967296 < 4294967296 := Nat.mod_lt _ (by decide)
    have hcall2 := zms (O.getD (p + i) 0) ((x * b.getD i 0 + c) % 4294967296) w ho hlo hw
    have s0 := zbm (X := O.take p ++ (pre ++ O.getD (p + i) 0 :: O.drop (p + i + 1))) (i := p + i) (v := (((O.getD (p + i) 0 + 4294967296 - (x * b.getD i 0 + c) % 4294967296 - w) % 4294967296 : Nat) : Int)) (by simp; omega) rfl
    rw [zdc (by rw [htp, hpre])] at s0
    have hw' : (if O.getD (p + i) 0 < (x * b.getD i 0 + c) % 4294967296 + w then 1 else 0 : Nat) < 2 := by split <;> omega
    generalize (O.getD (p + i) 0 + 4294967296 - (x * b.getD i 0 + c) % 4294967296 - w) % 4294967296 = vv at *
    generalize (if O.getD (p + i) 0 < (x * b.getD i 0 + c) % 4294967296 + w then 1 else 0 : Nat) = w2 at *
    generalize (x * b.getD i 0 + c) / 4294967296 = c2 at *
    generalize (x * b.getD i 0 + c) % 4294967296 = lo at *
    generalize b.getD i 0 = y at *
    generalize O.getD (p + i) 0 = o at *
    have hlen : p + i < p + (pre.length + (1 + (O.length - (p + i + 1)))) := by omega
    simp only [List.append_assoc, List.cons_append, List.nil_append] at s0
    (repeat (first | with_reducible (first | refine WL.seq ?_ | refine WL.skip ?_ | refine WL.label ?_ | refine WL.block ?_ | refine WL.scope ?_ | refine WL.nilS ?_ | refine WL.reS ?_ | refine WL.exS ?_ | refine WL.nilB ?_ | refine WL.nilT ?_ | refine WL.exit ?_ | refine WL.ret ?_ | refine WL.exT ?_ | refine WL.exB ?_ | refine WL.exN rfl ?_ | refine WL.reT ?_ | refine WL.reB ?_) | ((first | refine WL.reg rfl ?_ | refine WL.regT zai rfl ?_); (conv => { arg 3; simp [prep, prep1] }); (repeat (first | (refine zae ?_ ?_; (focus (simp; done)); (conv => { arg 4; simp (disch := omega) [h16, h17, hi', h15, hA', h0, h1, h2, h3, h9, h10, hst, r0, s0, hpre, htp, ht, hpi] }); (first | (first | refine zaa ?_ | (refine zac ?_; (conv => { arg 5; simp }))) | ((first | refine zal true rfl rfl ⟨_, Tryz.func165, rfl, rfl⟩ ?_ | refine zal true rfl rfl ⟨_, Tryz.func196, rfl, rfl⟩ ?_); (conv => { arg 6; simp (disch := omega) [h16, h17, hi', h15, hA', h0, h1, h2, h3, h9, h10, hst, r0, s0, hpre, htp, ht, hpi] }); (first | refine zaf (hcall) rfl ?_ | refine zaf (hcall2) rfl ?_); (conv => { arg 5; simp (disch := omega) [h16, h17, hi', h15, hA', h0, h1, h2, h3, h9, h10, hst, r0, s0, hpre, htp, ht, hpi] })))) | (refine zab rfl ?_ ?_; (focus (simp; done))))); with_reducible refine zad ?_; (first | refine ⟨rfl, ?_⟩ | refine ⟨by simp [quietB], by simp [quietU], ?_⟩ | skip)) | (refine WL.cond ?_; (conv => { arg 1; simp (disch := omega) [h16, h17, hi', h15, hA', h0, h1, h2, h3, h9, h10, hst, r0, s0, hpre, htp, ht, hpi] }); with_reducible (first | refine zaj ?_ | refine zak ?_ | refine zag (by omega) ?_ | refine zah (by omega) ?_))))
    exact ⟨b.length - (i + 1), by omega, i + 1, c2, w2, pre ++ [vv], rfl, by omega, by simp [h0], by simp [h1], by simp [h2], by simp [h3], by simp, by simp, by simp [h15], by simp [h16], by simp, by simp [Nat.add_assoc], by simp [hpre], hcy, hw', by rw [← hT]; simp, hW⟩
  · have hia : i = b.length := by omega
    subst hia
    have hd0 : b.drop b.length = [] := List.drop_of_length_le (Nat.le_refl _)
    have hs1 : tkL (O.drop (p + b.length)) [] x c w = (O.getD (p + b.length) 0 + 4294967296 - c - w) % 4294967296 :: O.drop (p + b.length + 1) := by
      rw [tkL, zbb, List.tail_drop]
    have hs2 : tkW (O.drop (p + b.length)) [] x c w = (if O.getD (p + b.length) 0 < c + w then 1 else 0) := by
      rw [tkW, zbb]
    rw [hd0, hs1] at hT
    rw [hd0, hs2] at hW
    have hcall := zms (O.getD (p + b.length) 0) c w ho hc hw
    have s0 := zbm (X := O.take p ++ (pre ++ O.getD (p + b.length) 0 :: O.drop (p + b.length + 1))) (i := p + b.length) (v := (((O.getD (p + b.length) 0 + 4294967296 - c - w) % 4294967296 : Nat) : Int)) (by simp; omega) rfl
    rw [zdc (by rw [htp, hpre])] at s0
    rw [hW] at hcall
    generalize (O.getD (p + b.length) 0 + 4294967296 - c - w) % 4294967296 = vv at *
    generalize O.getD (p + b.length) 0 = o at *
    simp only [List.append_assoc, List.cons_append, List.nil_append, hT] at s0
    have hlen : p + b.length < p + (pre.length + (1 + (O.length - (p + b.length + 1)))) := by omega
    (repeat (first | with_reducible (first | refine WL.seq ?_ | refine WL.skip ?_ | refine WL.label ?_ | refine WL.block ?_ | refine WL.scope ?_ | refine WL.nilS ?_ | refine WL.reS ?_ | refine WL.exS ?_ | refine WL.nilB ?_ | refine WL.nilT ?_ | refine WL.exit ?_ | refine WL.ret ?_ | refine WL.exT ?_ | refine WL.exB ?_ | refine WL.exN rfl ?_ | refine WL.reT ?_ | refine WL.reB ?_) | ((first | refine WL.reg rfl ?_ | refine WL.regT zai rfl ?_); (conv => { arg 3; simp [prep, prep1] }); (repeat (first | (refine zae ?_ ?_; (focus (simp; done)); (conv => { arg 4; simp (disch := omega) [h16, h17, h0, h1, h2, h3, h9, h10, hst, r0, s0, hpre, htp, ht, hle] }); (first | (first | refine zaa ?_ | (refine zac ?_; (conv => { arg 5; simp }))) | (refine zal true rfl rfl ⟨_, Tryz.func196, rfl, rfl⟩ ?_; (conv => { arg 6; simp (disch := omega) [h16, h17, h0, h1, h2, h3, h9, h10, hst, r0, s0, hpre, htp, ht, hle] }); refine zaf (hcall) rfl ?_; (conv => { arg 5; simp (disch := omega) [h16, h17, h0, h1, h2, h3, h9, h10, hst, r0, s0, hpre, htp, ht, hle] })))) | (refine zab rfl ?_ ?_; (focus (simp; done))))); with_reducible refine zad ?_; (first | refine ⟨rfl, ?_⟩ | refine ⟨by simp [quietB], by simp [quietU], ?_⟩ | skip)) | (refine WL.cond ?_; (conv => { arg 1; simp (disch := omega) [h16, h17, h0, h1, h2, h3, h9, h10, hst, r0, s0, hpre, htp, ht, hle] }); with_reducible (first | refine zaj ?_ | refine zak ?_ | refine zag (by omega) ?_ | refine zah (by omega) ?_))))
    refine ⟨[⟨0, 0, 0⟩], ?_⟩
    simp (disch := omega) [s0, hst]
def gvL : List Nat → List Nat → Nat → List Nat
  | O, [], c => (O.headD 0 + c) % 4294967296 :: O.tail
  | O, y :: b, c => (O.headD 0 + y + c) % 4294967296 :: gvL O.tail b ((O.headD 0 + y + c) / 4294967296)
def gvW : List Nat → List Nat → Nat → Nat
  | O, [], c => (O.headD 0 + c) / 4294967296
  | O, y :: b, c => gvW O.tail b ((O.headD 0 + y + c) / 4294967296)
theorem zqa : ∀ (b O : List Nat) (c : Nat), b.length < O.length → (gvL O b c).length = O.length
  | [], O, c, h => by simp [gvL]; simp at h; omega
  | y :: b, O, c, h => by
    simp only [gvL, List.length_cons] at h ⊢
    rw [zqa b O.tail _ (by simp; omega)]
    simp; omega
theorem zot : ∀ (b O : List Nat) (c : Nat), wf O → wf (gvL O b c)
  | [], O, c, hO => wf_cons.2 ⟨Nat.mod_lt _ (by decide), (zec hO).2⟩
  | y :: b, O, c, hO => wf_cons.2 ⟨Nat.mod_lt _ (by decide), zot b O.tail _ (zec hO).2⟩
theorem zoz : ∀ (b O : List Nat) (c : Nat), val (gvL O b c) + 4294967296 ^ (b.length + 1) * gvW O b c = val O + val b + c
  | [], O, c => by
    rw [zle O]
    simp only [gvL, gvW, val, List.length_nil, Nat.zero_add, Nat.pow_one, Nat.add_zero]
    omega
  | y :: b, O, c => by
    have ih := zoz b O.tail ((O.headD 0 + y + c) / 4294967296)
    rw [zle O]
    simp only [gvL, gvW, val, List.length_cons]
    rw [Nat.pow_succ _ (b.length + 1), Nat.mul_right_comm _ 4294967296]
    generalize 4294967296 ^ (b.length + 1) * gvW O.tail b ((O.headD 0 + y + c) / 4294967296) = pw at *
    generalize val (gvL O.tail b ((O.headD 0 + y + c) / 4294967296)) = tv at *
    omega
theorem quotGive (v : Nat) (O b : List Nat) (n p : Nat) (hn : O.length = n) (hb : wf b) (hO : wf O) (hle : p + b.length < n) (hl : n ≤ 4398046511104) :
    CallOk Tryz.prog 217 [.sl ⟨0, 0, 0⟩ v 0 n 1, .int .i64 p, wl b] [⟨v, true, true, ws O⟩] (.tup []) [⟨v, true, true, ws (O.take p ++ gvL (O.drop p) b 0)⟩] := by
  refine CallOk.of_wl Tryz.func217 rfl rfl rfl (Nat.le_of_ble_eq_true rfl) ?_
  (repeat (first | with_reducible (first | refine WL.seq ?_ | refine WL.skip ?_ | refine WL.label ?_ | refine WL.block ?_ | refine WL.scope ?_ | refine WL.nilS ?_ | refine WL.reS ?_ | refine WL.exS ?_ | refine WL.nilB ?_ | refine WL.nilT ?_ | refine WL.exit ?_ | refine WL.ret ?_ | refine WL.exT ?_ | refine WL.exB ?_ | refine WL.exN rfl ?_ | refine WL.reT ?_ | refine WL.reB ?_) | ((first | refine WL.reg rfl ?_ | refine WL.regT zai rfl ?_); (conv => { arg 3; simp [prep, prep1] }); (repeat (first | (refine zae ?_ ?_; (focus (simp; done)); (conv => { arg 4; simp (disch := omega)  }); (first | (first | refine zaa ?_ | (refine zac ?_; (conv => { arg 5; simp }))))) | (refine zab rfl ?_ ?_; (focus (simp; done))))); with_reducible refine zad ?_; (first | refine ⟨rfl, ?_⟩ | refine ⟨by simp [quietB], by simp [quietU], ?_⟩ | skip)) | (refine WL.cond ?_; (conv => { arg 1; simp (disch := omega)  }); with_reducible (first | refine zaj ?_ | refine zak ?_ | refine zag (by omega) ?_ | refine zah (by omega) ?_))))
  refine WL.loop (fun m s => ∃ (i c : Nat) (pre : List Nat), m = b.length - i ∧ i ≤ b.length ∧ s.frame 0 = .sl ⟨0, 0, 0⟩ v 0 n 1 ∧ s.frame 1 = .int .i64 p ∧ s.frame 2 = wl b ∧ s.frame 6 = w32 c ∧ s.frame 9 = wl b ∧ s.frame 10 = .int .i64 b.length ∧ s.frame 11 = .int .i64 i ∧
      s.store ⟨0, 0, 0⟩ = some ⟨v, true, true, ws (O.take p ++ (pre ++ O.drop (p + i)))⟩ ∧ pre.length = i ∧ c < 4294967296 ∧ pre ++ gvL (O.drop (p + i)) (b.drop i) c = gvL (O.drop p) b 0) b.length ?_ ?_
  · exact ⟨0, 0, [], rfl, by omega, by simp, by simp, by simp, by simp, by simp, by simp, by simp, by simp [stOf], rfl, by omega, by simp⟩
  rintro m ⟨f, σ, g⟩ ⟨i, c, pre, rfl, hi, h0, h1, h2, h6, h9, h10, h11, hst, hpre, hc, hT⟩
  simp only at h0 h1 h2 h6 h9 h10 h11 hst
  have htp : (O.take p).length = p := by simp; omega
  have ho := zbl hO (p + i)
  have hd := zaz (X := O) (i := p + i) (by omega)
  have r0 : (ws (O.take p ++ (pre ++ O.drop (p + i))))[p + i]? = some (.int .u32 (O.getD (p + i) 0 : Nat)) := by
    rw [zbk (by simp; omega), zhg (by rw [htp, hpre]), zbb]
  rw [hd] at hst r0
  have ht : ((p : Int) + i).toNat = p + i := by omega
  have hpi : p + i < n := by omega
  by_cases hi' : i < b.length
  · have hy := zbl hb i
    have hA' := zbk hi'
    have hs1 : gvL (O.drop (p + i)) (b.drop i) c = (O.getD (p + i) 0 + b.getD i 0 + c) % 4294967296 :: gvL (O.drop (p + (i + 1))) (b.drop (i + 1)) ((O.getD (p + i) 0 + b.getD i 0 + c) / 4294967296) := by
      rw [zaz hi', gvL, zbb, List.tail_drop, show p + i + 1 = p + (i + 1) by omega]
    rw [hs1] at hT
    clear hs1
    have hcall := zkm (O.getD (p + i) 0) (b.getD i 0) c ho hy hc
    have s0 := zbm (X := O.take p ++ (pre ++ O.getD (p + i) 0 :: O.drop (p + i + 1))) (i := p + i) (v := (((O.getD (p + i) 0 + b.getD i 0 + c) % 4294967296 : Nat) : Int)) (by simp; omega) rfl
    rw [zdc (by rw [htp, hpre])] at s0
    have hc' : (O.getD (p + i) 0 + b.getD i 0 + c) / 4294967296 < 4294967296 := by omega
    generalize (O.getD (p + i) 0 + b.getD i 0 + c) % 4294967296 = vv at *
    generalize (O.getD (p + i) 0 + b.getD i 0 + c) / 4294967296 = c2 at *
    generalize b.getD i 0 = y at *
    generalize O.getD (p + i) 0 = o at *
    have hlen : p + i < p + (pre.length + (1 + (O.length - (p + i + 1)))) := by omega
    simp only [List.append_assoc, List.cons_append, List.nil_append] at s0
    (repeat (first | with_reducible (first | refine WL.seq ?_ | refine WL.skip ?_ | refine WL.label ?_ | refine WL.block ?_ | refine WL.scope ?_ | refine WL.nilS ?_ | refine WL.reS ?_ | refine WL.exS ?_ | refine WL.nilB ?_ | refine WL.nilT ?_ | refine WL.exit ?_ | refine WL.ret ?_ | refine WL.exT ?_ | refine WL.exB ?_ | refine WL.exN rfl ?_ | refine WL.reT ?_ | refine WL.reB ?_) | ((first | refine WL.reg rfl ?_ | refine WL.regT zai rfl ?_); (conv => { arg 3; simp [prep, prep1] }); (repeat (first | (refine zae ?_ ?_; (focus (simp; done)); (conv => { arg 4; simp (disch := omega) [h10, h11, hi', h9, hA', h0, h1, h2, h6, hst, r0, s0, hpre, htp, ht, hpi] }); (first | (first | refine zaa ?_ | (refine zac ?_; (conv => { arg 5; simp }))) | (refine zal true rfl rfl ⟨_, Tryz.func195, rfl, rfl⟩ ?_; (conv => { arg 6; simp (disch := omega) [h10, h11, hi', h9, hA', h0, h1, h2, h6, hst, r0, s0, hpre, htp, ht, hpi] }); refine zaf (hcall) rfl ?_; (conv => { arg 5; simp (disch := omega) [h10, h11, hi', h9, hA', h0, h1, h2, h6, hst, r0, s0, hpre, htp, ht, hpi] })))) | (refine zab rfl ?_ ?_; (focus (simp; done))))); with_reducible refine zad ?_; (first | refine ⟨rfl, ?_⟩ | refine ⟨by simp [quietB], by simp [quietU], ?_⟩ | skip)) | (refine WL.cond ?_; (conv => { arg 1; simp (disch := omega) [h10, h11, hi', h9, hA', h0, h1, h2, h6, hst, r0, s0, hpre, htp, ht, hpi] }); with_reducible (first | refine zaj ?_ | refine zak ?_ | refine zag (by omega) ?_ | refine zah (by omega) ?_))))
    exact ⟨b.length - (i + 1), by omega, i + 1, c2, pre ++ [vv], rfl, by omega, by simp [h0], by simp [h1], by simp [h2], by simp, by simp [h9], by simp [h10], by simp, by simp [Nat.add_assoc], by simp [hpre], hc', by rw [← hT]; simp⟩
  · have hia : i = b.length := by omega
    subst hia
    have hd0 : b.drop b.length = [] := List.drop_of_length_le (Nat.le_refl _)
    have hs1 : gvL (O.drop (p + b.length)) [] c = (O.getD (p + b.length) 0 + c) % 4294967296 :: O.drop (p + b.length + 1) := by
      rw [gvL, zbb, List.tail_drop]
    rw [hd0, hs1] at hT
    have s0 := zbm (X := O.take p ++ (pre ++ O.getD (p + b.length) 0 :: O.drop (p + b.length + 1))) (i := p + b.length) (v := (((O.getD (p + b.length) 0 + c) % 4294967296 : Nat) : Int)) (by simp; omega) rfl
    rw [zdc (by rw [htp, hpre])] at s0
    generalize O.getD (p + b.length) 0 = o at *
    simp only [List.append_assoc, List.cons_append, List.nil_append, hT] at s0
    simp only [Int.natCast_add, Int.natCast_emod, c32] at s0
    have hlen : p + b.length < p + (pre.length + (1 + (O.length - (p + b.length + 1)))) := by omega
    (repeat (first | with_reducible (first | refine WL.seq ?_ | refine WL.skip ?_ | refine WL.label ?_ | refine WL.block ?_ | refine WL.scope ?_ | refine WL.nilS ?_ | refine WL.reS ?_ | refine WL.exS ?_ | refine WL.nilB ?_ | refine WL.nilT ?_ | refine WL.exit ?_ | refine WL.ret ?_ | refine WL.exT ?_ | refine WL.exB ?_ | refine WL.exN rfl ?_ | refine WL.reT ?_ | refine WL.reB ?_) | ((first | refine WL.reg rfl ?_ | refine WL.regT zai rfl ?_); (conv => { arg 3; simp [prep, prep1] }); (repeat (first | (refine zae ?_ ?_; (focus (simp; done)); (conv => { arg 4; simp (disch := omega) [h10, h11, h0, h1, h2, h6, h9, hst, r0, s0, hpre, htp, ht, hle] }); (first | (first | refine zaa ?_ | (refine zac ?_; (conv => { arg 5; simp }))))) | (refine zab rfl ?_ ?_; (focus (simp; done))))); with_reducible refine zad ?_; (first | refine ⟨rfl, ?_⟩ | refine ⟨by simp [quietB], by simp [quietU], ?_⟩ | skip)) | (refine WL.cond ?_; (conv => { arg 1; simp (disch := omega) [h10, h11, h0, h1, h2, h6, h9, hst, r0, s0, hpre, htp, ht, hle] }); with_reducible (first | refine zaj ?_ | refine zak ?_ | refine zag (by omega) ?_ | refine zah (by omega) ?_))))
    refine ⟨[⟨0, 0, 0⟩], ?_⟩
    simp (disch := omega) [s0, hst]
end Go.Proofs.YthgldcflcmlgpaaGreatDoorE
end
section
/- One step of a long division, in numbers. -/
set_option linter.unusedVariables false
set_option linter.unusedSimpArgs false
namespace Go.Proofs.YthgldcflcmlgpaaGreatDoorE
open Go.RowKit
set_option maxRecDepth 100000
def dg : Nat → Nat → List Nat
  | 0, _ => []
  | k + 1, n => n % 4294967296 :: dg k (n / 4294967296)
theorem zjn : ∀ k n, (dg k n).length = k
  | 0, _ => rfl
  | k + 1, n => by simp [dg, zjn k]
theorem zrj : ∀ k n, wf (dg k n)
  | 0, _ => zfk
  | k + 1, n => wf_cons.2 ⟨Nat.mod_lt _ (by decide), zrj k _⟩
theorem zqf : ∀ {l : List Nat}, wf l → dg l.length (val l) = l
  | [], _ => rfl
  | x :: r, h => by
    obtain ⟨h1, h2⟩ := wf_cons.1 h
    simp only [List.length_cons, dg, val]
    rw [show (x + 4294967296 * val r) % 4294967296 = x by omega, show (x + 4294967296 * val r) / 4294967296 = val r by omega, zqf h2]
theorem zpa : ∀ k n, n < 4294967296 ^ k → val (dg k n) = n
  | 0, n, h => by simp at h; subst h; rfl
  | k + 1, n, h => by
    simp only [dg, val]
    rw [zpa k _ (Nat.div_lt_of_lt_mul (by rw [Nat.pow_succ, Nat.mul_comm] at h; exact h))]
    omega
theorem zjv : ∀ (b O : List Nat) (x c w : Nat), (tkL O b x c w).drop (b.length + 1) = O.drop (b.length + 1)
  | [], O, x, c, w => by simp [tkL]
  | y :: b, O, x, c, w => by
    simp only [tkL, List.length_cons, List.drop_succ_cons]
    rw [zjv b O.tail]
    cases O <;> simp
theorem zoa : ∀ (b O : List Nat) (c : Nat), (gvL O b c).drop (b.length + 1) = O.drop (b.length + 1)
  | [], O, c => by simp [gvL]
  | y :: b, O, c => by
    simp only [gvL, List.length_cons, List.drop_succ_cons]
    rw [zoa b O.tail]
    cases O <;> simp
theorem zlc {X : List Nat} (k : Nat) (hX : wf X) (h : val (X.drop k) = 0) : val X < 4294967296 ^ k := by
  by_cases hk : k ≤ X.length
  · have h1 := zax (zdm hX k)
    rw [zef X k hk, h, Nat.mul_zero, Nat.add_zero]
    rwa [List.length_take, Nat.min_eq_left hk] at h1
  · exact Nat.lt_of_lt_of_le (zax hX) (Nat.pow_le_pow_right (by decide) (by omega))
theorem val_top {X : List Nat} (k : Nat) (hk : k ≤ X.length) (h : val X < 4294967296 ^ k) : val (X.drop k) = 0 := by
  rw [zef X k hk] at h
  rcases Nat.eq_zero_or_pos (val (X.drop k)) with h0 | h0
  · exact h0
  · have := Nat.mul_le_mul_left (4294967296 ^ k) h0
    omega
theorem eN_ (a2 a1 a0 : Nat) : (a2 * 4294967296 + a1) * 4294967296 + a0 = a0 + 4294967296 * (a1 + 4294967296 * a2) := by omega
theorem eD_ (b1 b0 : Nat) : b1 * 4294967296 + b0 = b0 + 4294967296 * b1 := by omega
theorem knuth {Bk sl bl a2 a1 a0 b1 b0 : Nat} (hB : 0 < Bk) (hsl : sl < Bk) (hbl : bl < Bk) (h0 : a0 < 4294967296) (h1 : a1 < 4294967296) (hb0 : b0 < 4294967296) (hb1 : 0 < b1)
    (hlt : sl + Bk * (a0 + 4294967296 * (a1 + 4294967296 * a2)) < 4294967296 * (bl + Bk * (b0 + 4294967296 * b1))) :
    (sl + Bk * (a0 + 4294967296 * (a1 + 4294967296 * a2))) / (bl + Bk * (b0 + 4294967296 * b1)) ≤ guessN a2 a1 a0 b1 b0 ∧
    guessN a2 a1 a0 b1 b0 ≤ (sl + Bk * (a0 + 4294967296 * (a1 + 4294967296 * a2))) / (bl + Bk * (b0 + 4294967296 * b1)) + 1 := by
  unfold guessN
  rw [eN_, eD_]
  generalize hN : a0 + 4294967296 * (a1 + 4294967296 * a2) = N at *
  have hD : 4294967296 ≤ b0 + 4294967296 * b1 := by omega
  generalize b0 + 4294967296 * b1 = D at *
  have hV : 0 < bl + Bk * D := by
    have := Nat.mul_pos hB (show 0 < D by omega); omega
  constructor
  · refine Nat.le_min.2 ⟨?_, ?_⟩
    · have : (sl + Bk * N) / (bl + Bk * D) < 4294967296 := Nat.div_lt_of_lt_mul (by rw [Nat.mul_comm (bl + Bk * D)]; exact hlt)
      omega
    · rw [Nat.le_div_iff_mul_le (by omega)]
      have hq := Nat.div_mul_le_self (sl + Bk * N) (bl + Bk * D)
      generalize (sl + Bk * N) / (bl + Bk * D) = q at *
      rw [Nat.mul_add] at hq
      have h2 : Bk * (q * D) < Bk * (N + 1) := by
        rw [Nat.mul_left_comm, Nat.mul_succ]
        have : 0 ≤ q * bl := Nat.zero_le _
        omega
      exact Nat.le_of_lt_succ (Nat.lt_of_mul_lt_mul_left h2)
  · rw [← Nat.sub_le_iff_le_add, Nat.le_div_iff_mul_le hV]
    have hg : min 4294967295 (N / D) * D ≤ N := Nat.le_trans (Nat.mul_le_mul_right _ (Nat.min_le_right _ _)) (Nat.div_mul_le_self _ _)
    have hg2 : min 4294967295 (N / D) ≤ 4294967295 := Nat.min_le_left _ _
    generalize min 4294967295 (N / D) = g at *
    rcases g with _ | g
    · simp
    · rw [Nat.add_sub_cancel, Nat.mul_add, Nat.mul_left_comm]
      have e1 : g * bl ≤ 4294967295 * Bk := Nat.mul_le_mul (by omega) (by omega)
      have e2 : Bk * (g * D + D) ≤ Bk * N := by
        rw [Nat.succ_mul] at hg
        exact Nat.mul_le_mul_left _ hg
      have e3 : Bk * 4294967296 ≤ Bk * D := Nat.mul_le_mul_left _ hD
      rw [Nat.mul_add] at e2
      omega
theorem drop_three {X : List Nat} {k : Nat} (h : k + 2 < X.length) : X.drop k = X.getD k 0 :: X.getD (k + 1) 0 :: X.getD (k + 2) 0 :: X.drop (k + 3) := by
  rw [zaz (by omega), zaz (by omega), zaz (by omega)]
theorem drop_two {X : List Nat} {k : Nat} (h : k + 2 = X.length) : X.drop k = [X.getD k 0, X.getD (k + 1) 0] := by
  rw [zaz (by omega), zaz (by omega), List.drop_of_length_le (by omega)]
theorem long_a (S b : List Nat) (k : Nat) (hb : wf b) (hk : k + 2 = b.length) (hl : b.length < S.length) (hlt : val S.tail < val b) : S.getD (k + 2) 0 ≤ b.getD (k + 1) 0 := by
  have h1 : 4294967296 ^ (k + 1) * S.getD (k + 2) 0 ≤ val S.tail := by
    rw [zef S.tail (k + 1) (by simp; omega), List.drop_tail, zaz (show k + 1 + 1 < S.length by omega)]
    simp only [val]
    generalize 4294967296 ^ (k + 1) = Q
    rw [Nat.mul_add, show k + 1 + 1 = k + 2 from rfl]; omega
  have h2 : val b < 4294967296 ^ (k + 1) * (b.getD (k + 1) 0 + 1) := by
    have h3 := zax (zdm hb (k + 1))
    rw [List.length_take, Nat.min_eq_left (by omega)] at h3
    rw [zef b (k + 1) (by omega), zaz (show k + 1 < b.length by omega), List.drop_of_length_le (show b.length ≤ k + 1 + 1 by omega)]
    simp only [val, Nat.mul_zero, Nat.add_zero]
    generalize 4294967296 ^ (k + 1) = Q at *
    rw [Nat.mul_add, Nat.mul_one]; omega
  exact Nat.le_of_lt_succ (Nat.lt_of_mul_lt_mul_left (Nat.lt_of_le_of_lt h1 (Nat.lt_trans hlt h2)))
theorem long_b (S b : List Nat) (k : Nat) (hS : wf S) (hb : wf b) (hk : k + 2 = b.length) (hl : b.length < S.length) (ht : 0 < b.getD (k + 1) 0) (hlt : val S.tail < val b) :
    val (S.drop (k + 3)) = 0 ∧ 0 < val b ∧ val S / val b ≤ guessN (S.getD (k + 2) 0) (S.getD (k + 1) 0) (S.getD k 0) (b.getD (k + 1) 0) (b.getD k 0) ∧ guessN (S.getD (k + 2) 0) (S.getD (k + 1) 0) (S.getD k 0) (b.getD (k + 1) 0) (b.getD k 0) ≤ val S / val b + 1 := by
  have hbv : val b = val (b.take k) + 4294967296 ^ k * (b.getD k 0 + 4294967296 * b.getD (k + 1) 0) := by
    rw [zef b k (by omega), drop_two hk]; simp [val]
  have hbn := zax hb
  rw [← hk] at hbn
  have hSt : val (S.drop (k + 3)) = 0 := by
    have := val_top (X := S.tail) (k + 2) (by simp; omega) (Nat.lt_trans hlt hbn)
    rwa [List.drop_tail] at this
  clear hbn
  have hSv : val S = val (S.take k) + 4294967296 ^ k * (S.getD k 0 + 4294967296 * (S.getD (k + 1) 0 + 4294967296 * S.getD (k + 2) 0)) := by
    rw [zef S k (by omega), drop_three (by omega)]; simp [val, hSt]
  have hsl := zax (zdm hS k)
  have hbl := zax (zdm hb k)
  rw [List.length_take, Nat.min_eq_left (by omega)] at hsl hbl
  have hB : 0 < 4294967296 ^ k := Nat.pow_pos (by decide)
  generalize 4294967296 ^ k = Bk at *
  have hx : val S < 4294967296 * val b := by
    have := (zec hS).1
    rw [zle S]; omega
  have hbpos : 0 < val b := by
    rw [hbv]
    have := Nat.mul_pos hB (show 0 < b.getD k 0 + 4294967296 * b.getD (k + 1) 0 by omega)
    omega
  have h0 := zbl hS k
  have h1 := zbl hS (k + 1)
  have h2 := zbl hb k
  generalize S.getD (k + 2) 0 = a2 at *
  generalize S.getD (k + 1) 0 = a1 at *
  generalize S.getD k 0 = a0 at *
  generalize b.getD (k + 1) 0 = b1 at *
  generalize b.getD k 0 = b0 at *
  rw [hSv, hbv] at hx ⊢
  have hkn := knuth hB hsl hbl h0 h1 h2 ht hx
  rw [hbv] at hbpos
  exact ⟨hSt, hbpos, hkn.1, hkn.2⟩
theorem long_c {s v q r t g P w tv gv gw : Nat} (hv : 0 < v) (h1 : s / v ≤ g) (h2 : g ≤ s / v + 1) (htk : tv + g * v = s + P * w) (hw : w ≤ 1) (htP : tv < P) (hgv : gv + P * gw = tv + v) (hgP : gv < P) (hvP : v < P) :
    (¬ 0 < w → tv = s % v ∧ g = s / v) ∧ (0 < w → 0 < g ∧ gv = s % v ∧ g - 1 = s / v) := by
  have hdm := Nat.div_add_mod s v
  have hmod := Nat.mod_lt s hv
  have hd1 : ∀ g : Nat, g ≤ s / v ↔ g * v ≤ s := fun g => Nat.le_div_iff_mul_le hv
  have hd2 : ∀ g : Nat, s / v < g ↔ s < g * v := fun g => Nat.div_lt_iff_lt_mul hv
  generalize s / v = qq at *
  generalize s % v = rr at *
  constructor
  · intro h
    have h0 : w = 0 := by omega
    simp only [h0, Nat.mul_zero, Nat.add_zero] at htk
    have hle : g ≤ qq := by rw [hd1]; omega
    have hge : g = qq := by omega
    refine ⟨?_, hge⟩
    rw [← hge, Nat.mul_comm] at hdm
    omega
  · intro h
    have h0 : w = 1 := by omega
    simp only [h0, Nat.mul_one] at htk
    have hgt : s < g * v := by omega
    have hne : qq < g := (hd2 g).2 hgt
    have hg1 : g = qq + 1 := by omega
    have e : g * v = v * qq + v := by rw [hg1, Nat.succ_mul, Nat.mul_comm]
    clear hd1 hd2
    refine ⟨by omega, ?_, by omega⟩
    have hw : gw = 1 := by
      rcases gw with _ | _ | gw
      · simp only [Nat.mul_zero, Nat.add_zero] at hgv; omega
      · rfl
      · rw [Nat.mul_add, Nat.mul_add] at hgv
        have : 0 ≤ P * gw := Nat.zero_le _
        omega
    subst hw
    rw [Nat.mul_one] at hgv
    omega
end Go.Proofs.YthgldcflcmlgpaaGreatDoorE
end
section
/- Long division of lists of words. -/
set_option linter.unusedVariables false
set_option linter.unusedSimpArgs false
namespace Go.Proofs.YthgldcflcmlgpaaGreatDoorE
open Go.RowKit
set_option maxRecDepth 100000
attribute [local simp] List.getElem?_cons_zero List.getElem?_cons_succ List.getElem?_nil wrap_i64 stOf st0 effF effC evalV evalL zfd zcr pv_t pv_c pv_g pv_f ofConst binV binI lenV foldV mx2 mn2 unV convV extractV idxV indexV fieldAddrV fieldV partV sliceV boundsV loadL live storeE appendE srcV litE makeE IntKind.bits copyE boxE allocE flatParts flatCs flatC allParts cellsOf solid leafB fillL frzL buildV fillP placeS eqFl eqCell St.eff St.put wrs callE renP renA renC renI nid newL renB noEff endK endR resA resL resV expP expA expC expN expL expBs expB idx thenQ blockQ wantK if_pos if_neg wrap_u32 zas beqI bneI w32 wl zar Int.natCast_inj
theorem long_T (S b : List Nat) (k x : Nat) (hS : wf S) (hb : wf b) (hk : k + 2 = b.length) (hl : b.length < S.length) (hx : x < 4294967296) (b1 : val (S.drop (k + 3)) = 0) (b2 : 0 < val b) (b3 : val S / val b ≤ x) (b4 : x ≤ val S / val b + 1) :
    (¬ 0 < tkW S b x 0 0 → val (tkL S b x 0 0) = val S % val b ∧ x = val S / val b) ∧ (0 < tkW S b x 0 0 → 0 < x ∧ val (gvL (tkL S b x 0 0) b 0) = val S % val b ∧ x - 1 = val S / val b) := by
  have htk := zox b S x 0 0 hb hS hx (by decide) (by decide) hl
  have hTw := zor b S x 0 0 hS
  have hgv := zoz b (tkL S b x 0 0) 0
  have hVw := zot b (tkL S b x 0 0) 0 hTw
  have e : k + 3 = b.length + 1 := congrArg (· + 1) hk
  rw [e] at b1
  have hTs := zlc (b.length + 1) hTw ((congrArg val (zjv b S x 0 0)).trans b1)
  have hVs := zlc (b.length + 1) hVw ((congrArg val ((zoa b _ 0).trans (zjv b S x 0 0))).trans b1)
  have hbB : val b < 4294967296 ^ (b.length + 1) := Nat.lt_of_lt_of_le (zax hb) (Nat.pow_le_pow_right (by decide) (Nat.le_succ _))
  generalize 4294967296 ^ (b.length + 1) = P at *
  simp only [Nat.add_zero] at htk hgv
  exact long_c (r := 0) (q := 0) (t := 0) b2 b3 b4 htk (zqq b _ x 0 0) hTs hgv hVs hbB
structure LongI (A b : List Nat) (L m : Nat) (O Q : List Nat) : Prop where
  lenO : O.length = L
  lenQ : Q.length = L - b.length
  wfO : wf O
  wfQ : wf (Q.drop m)
  low : O.take m = A.take m
  sum : val (A.drop m) = val (Q.drop m) * val b + val (O.drop m)
  rest : val (O.drop m) < val b
def gss (O b : List Nat) (m k : Nat) : Nat := guessN (O.getD (m + (k + 2)) 0) (O.getD (m + (k + 1)) 0) (O.getD (m + k) 0) (b.getD (k + 1) 0) (b.getD k 0)
theorem long_num {A b : List Nat} {k L m : Nat} {O Q : List Nat} (hA : wf A) (hb : wf b) (hk : k + 2 = b.length) (hL : A.length = L) (ht : 0 < b.getD (k + 1) 0) (hm : m + b.length < L) (h : LongI A b L (m + 1) O Q) :
    O.getD (m + (k + 2)) 0 ≤ b.getD (k + 1) 0 ∧ gss O b m k < 4294967296 ∧ (tkL (O.drop m) b (gss O b m k) 0 0).length = L - m ∧ wf (tkL (O.drop m) b (gss O b m k) 0 0) ∧
    (¬ 0 < tkW (O.drop m) b (gss O b m k) 0 0 → LongI A b L m (O.take m ++ tkL (O.drop m) b (gss O b m k) 0 0) (Q.set m (gss O b m k))) ∧
    (0 < tkW (O.drop m) b (gss O b m k) 0 0 → 0 < gss O b m k ∧ LongI A b L m (O.take m ++ gvL (tkL (O.drop m) b (gss O b m k) 0 0) b 0) (Q.set m (gss O b m k - 1))) := by
  obtain ⟨hO, hQ, hwO, hwQ, htk, hv, hr⟩ := h
  have hS : wf (O.drop m) := zhn hwO m
  have hSl : b.length < (O.drop m).length := by simp; omega
  have hSt : (O.drop m).tail = O.drop (m + 1) := List.tail_drop
  have a1 := long_a (O.drop m) b k hb hk hSl (by rw [hSt]; exact hr)
  obtain ⟨b1, b2, b3, b4⟩ := long_b (O.drop m) b k hS hb hk hSl ht (by rw [hSt]; exact hr)
  simp only [zgm] at a1 b3 b4
  have hg : gss O b m k < 4294967296 := by
    have := zlx (O.getD (m + (k + 2)) 0) (O.getD (m + (k + 1)) 0) (O.getD (m + k) 0) (b.getD (k + 1) 0) (b.getD k 0); unfold gss; omega
  refine ⟨a1, hg, ?_⟩
  change _ ≤ gss O b m k at b3
  change gss O b m k ≤ _ at b4
  generalize gss O b m k = x at *
  have hTw := zor b (O.drop m) x 0 0 hS
  have hTl := zpg b (O.drop m) x 0 0 hSl
  have hVw := zot b (tkL (O.drop m) b x 0 0) 0 hTw
  have hVl := zqa b (tkL (O.drop m) b x 0 0) 0 (by rw [hTl]; exact hSl)
  have hc := long_T (O.drop m) b k x hS hb hk hSl hg b1 b2 b3 b4
  clear b3 b4
  have hhead : val (A.drop m) = val (Q.drop (m + 1)) * val b * 4294967296 + val (O.drop m) := by
    have e : A.getD m 0 = O.getD m 0 := by
      have h1 : (A.take (m + 1)).getD m 0 = (O.take (m + 1)).getD m 0 := by rw [htk]
      simpa [List.getD_eq_getElem?_getD, List.getElem?_take] using h1
    rw [zaz (X := A) (i := m) (by omega), zaz (X := O) (i := m) (by omega)]
    simp only [val]
    rw [hv, e]
    omega
  have htkm : O.take m = A.take m := by
    have h1 : (A.take (m + 1)).take m = (O.take (m + 1)).take m := by rw [htk]
    simpa [List.take_take] using h1.symm
  have hlenO : (O.take m).length = m := by simp; omega
  have hdm := Nat.div_add_mod (val (O.drop m)) (val b)
  have hmod := Nat.mod_lt (val (O.drop m)) b2
  have hfin : ∀ V : List Nat, wf V → V.length = (O.drop m).length → val V = val (O.drop m) % val b → ∀ y : Nat, y < 4294967296 → y = val (O.drop m) / val b → LongI A b L m (O.take m ++ V) (Q.set m y) := by
    intro V hV1 hV2 hV3 y hy1 hy2
    have hdV : (O.take m ++ V).drop m = V := by rw [List.drop_append_of_le_length (by omega), List.drop_of_length_le (by omega)]; rfl
    have htV : (O.take m ++ V).take m = A.take m := by rw [List.take_append_of_le_length (by omega), List.take_of_length_le (by omega), htkm]
    have hsd := zii (X := Q) (m := m) (q := y) (by omega)
    refine ⟨by simp [hV2]; omega, by simp [hQ], zir (zdm hwO m) hV1, by rw [hsd]; exact wf_cons.2 ⟨hy1, hwQ⟩, htV, ?_, by rw [hdV]; omega⟩
    rw [hhead, hdV, hV3, hsd]
    simp only [val]
    rw [← hy2] at hdm
    rw [Nat.add_mul, Nat.mul_comm y, Nat.mul_assoc, Nat.mul_assoc, Nat.mul_comm (val b) 4294967296, Nat.mul_left_comm]
    omega
  refine ⟨by rw [hTl]; simp; omega, hTw, fun h => ?_, fun h => ?_⟩
  · obtain ⟨h1, h2⟩ := hc.1 h
    exact hfin _ hTw hTl h1 x hg h2
  · obtain ⟨h0, h1, h2⟩ := hc.2 h
    exact ⟨h0, hfin _ hVw (by rw [hVl, hTl]) h1 (x - 1) (by omega) h2⟩
set_option maxHeartbeats 2000000 in
theorem quotLong (v : Nat) (A b : List Nat) (k L : Nat) (hA : wf A) (hb : wf b) (hk : k + 2 = b.length) (hL : A.length = L) (hbL : b.length ≤ L) (ht : 0 < b.getD (k + 1) 0) (hlt : val (A.drop (L - b.length)) < val b) (hmax : L ≤ 1099511627776) :
    CallOk Tryz.prog 193 [.sl ⟨0, 0, 0⟩ v 0 L 1, wl b] [⟨v, true, true, ws A⟩] (wl (dg (L - b.length) (val A / val b))) [⟨v, true, true, ws (dg L (val A % val b))⟩] := by
  have q4 : ((L : Int) - b.length).toNat = L - b.length := by omega
  have q5 : List.replicate (L - b.length) (PV.int IntKind.u32 0) = ws (List.replicate (L - b.length) 0) := by simp [ws]
  have q6 : ((L - b.length : Nat) : Int) = (L : Int) - b.length := by omega
  refine CallOk.of_wl Tryz.func193 rfl rfl rfl (Nat.le_of_ble_eq_true rfl) ?_
  (repeat (first | with_reducible (first | refine WL.seq ?_ | refine WL.skip ?_ | refine WL.label ?_ | refine WL.block ?_ | refine WL.scope ?_ | refine WL.nilS ?_ | refine WL.reS ?_ | refine WL.exS ?_ | refine WL.nilB ?_ | refine WL.nilT ?_ | refine WL.exit ?_ | refine WL.ret ?_ | refine WL.exT ?_ | refine WL.exB ?_ | refine WL.exN rfl ?_ | refine WL.reT ?_ | refine WL.reB ?_) | ((first | refine WL.reg rfl ?_ | refine WL.regT zai rfl ?_); (conv => { arg 3; simp [prep, prep1] }); (repeat (first | (refine zae ?_ ?_; (focus (simp; done)); (conv => { arg 4; simp (disch := omega) [stOf, q4, q5] }); (first | (first | refine zaa ?_ | (refine zac ?_; (conv => { arg 5; simp }))))) | (refine zab rfl ?_ ?_; (focus (simp; done))))); with_reducible refine zad ?_; (first | refine ⟨rfl, ?_⟩ | refine ⟨by simp [quietB], by simp [quietU], ?_⟩ | skip)) | (refine WL.cond ?_; (conv => { arg 1; simp (disch := omega) [stOf, q4, q5] }); with_reducible (first | refine zaj ?_ | refine zak ?_ | refine zag (by omega) ?_ | refine zah (by omega) ?_))))
  refine WL.loop (fun m s => ∃ (O Q : List Nat), m ≤ L - b.length ∧ s.frame 0 = .sl ⟨0, 0, 0⟩ v 0 L 1 ∧ s.frame 1 = wl b ∧ s.frame 5 = .int .i64 b.length ∧ s.frame 6 = .sl ⟨15, 0, 0⟩ 0 0 (L - b.length) 1 ∧ s.frame 7 = .int .i64 ((m : Int) - 1) ∧
      s.store ⟨0, 0, 0⟩ = some ⟨v, true, true, ws O⟩ ∧ s.store ⟨15, 0, 0⟩ = some ⟨0, true, true, ws Q⟩ ∧ LongI A b L m O Q) (L - b.length) ?_ ?_
  · refine ⟨A, List.replicate (L - b.length) 0, by omega, by simp, by simp, by simp, by simp, by simp [q6], by simp [stOf], by simp, hL, by simp, hA, zhn (zck _) _, rfl, ?_, hlt⟩
    rw [List.drop_of_length_le (l := List.replicate (L - b.length) 0) (by simp)]; simp [val]
  clear hlt q4 q5 q6
  rintro m ⟨f, σ, g⟩ ⟨O, Q, hm, h0, h1, h5, h6, h7, hs0, hs1, hI⟩
  simp only at h0 h1 h5 h6 h7 hs0 hs1
  have hO := hI.lenO
  have hQ := hI.lenQ
  cases m with
  | zero =>
    have hv := hI.sum
    have hr := hI.rest
    have hwQ := hI.wfQ
    simp only [List.drop_zero] at hv hr hwQ
    obtain ⟨e1, e2⟩ := zjl hv.symm hr
    have e3 := zqf hwQ
    have e4 := zqf hI.wfO
    rw [hQ] at e3
    rw [hO] at e4
    (repeat (first | with_reducible (first | refine WL.seq ?_ | refine WL.skip ?_ | refine WL.label ?_ | refine WL.block ?_ | refine WL.scope ?_ | refine WL.nilS ?_ | refine WL.reS ?_ | refine WL.exS ?_ | refine WL.nilB ?_ | refine WL.nilT ?_ | refine WL.exit ?_ | refine WL.ret ?_ | refine WL.exT ?_ | refine WL.exB ?_ | refine WL.exN rfl ?_ | refine WL.reT ?_ | refine WL.reB ?_) | ((first | refine WL.reg rfl ?_ | refine WL.regT zai rfl ?_); (conv => { arg 3; simp [prep, prep1] }); (repeat (first | (refine zae ?_ ?_; (focus (simp; done)); (conv => { arg 4; simp (disch := omega) [h7, h6] }); (first | (first | refine zaa ?_ | (refine zac ?_; (conv => { arg 5; simp }))))) | (refine zab rfl ?_ ?_; (focus (simp; done))))); with_reducible refine zad ?_; (first | refine ⟨rfl, ?_⟩ | refine ⟨by simp [quietB], by simp [quietU], ?_⟩ | skip)) | (refine WL.cond ?_; (conv => { arg 1; simp (disch := omega) [h7, h6] }); with_reducible (first | refine zaj ?_ | refine zak ?_ | refine zag (by omega) ?_ | refine zah (by omega) ?_))))
    (repeat (first | with_reducible (first | refine WL.seq ?_ | refine WL.skip ?_ | refine WL.label ?_ | refine WL.block ?_ | refine WL.scope ?_ | refine WL.nilS ?_ | refine WL.reS ?_ | refine WL.exS ?_ | refine WL.nilB ?_ | refine WL.nilT ?_ | refine WL.exit ?_ | refine WL.ret ?_ | refine WL.exT ?_ | refine WL.exB ?_ | refine WL.exN rfl ?_ | refine WL.reT ?_ | refine WL.reB ?_) | ((first | refine WL.reg rfl ?_ | refine WL.regT zai rfl ?_); (conv => { arg 3; simp [prep, prep1] }); (repeat (first | (refine zae ?_ ?_; (focus (simp; done)); (conv => { arg 4; simp (disch := omega) [h6, hs1] }); (first | (first | refine zaa ?_ | (refine zac ?_; (conv => { arg 5; simp }))))) | (refine zab rfl ?_ ?_; (focus (simp; done))))); with_reducible refine zad ?_; (first | refine ⟨rfl, ?_⟩ | refine ⟨by simp [quietB], by simp [quietU], ?_⟩ | skip)) | (refine WL.cond ?_; (conv => { arg 1; simp (disch := omega) [h6, hs1] }); with_reducible (first | refine zaj ?_ | refine zak ?_ | refine zag (by omega) ?_ | refine zah (by omega) ?_))))
    refine ⟨[⟨0, 0, 0⟩], ?_⟩
    rw [← e1, ← e2, e3, e4]
    have hQ' : (ws Q).take (L - b.length) = ws Q := by rw [← hQ, zbc]
    simp (disch := omega) [hs0, hs1, idx, hQ', hQ, zjn]
  | succ m =>
    have h7 : f 7 = .int .i64 (m : Int) := by rw [h7]; simp
    have hmL : m + b.length < L := by omega
    obtain ⟨a1, hx, hTl, hTw, z1, z2⟩ := long_num hA hb hk hL ht hmL hI
    have hwO := hI.wfO
    clear hI
    have c1 := quotGuess _ (O.getD (m + (k + 1)) 0) (O.getD (m + k) 0) _ (b.getD k 0) a1 (zbl hwO _) (zbl hwO _) ht (zbl hb _) (zbl hb _)
    change CallOk _ _ _ _ (w32 (gss O b m k)) _ at c1
    have c2 := quotTake v O b L m (gss O b m k) hO hb hwO hx (by omega) (by omega)
    have c3 := quotGive v (O.take m ++ tkL (O.drop m) b (gss O b m k) 0 0) b L m (by simp [hTl]; omega) hb (zir (zdm hwO m) hTw) (by omega) (by omega)
    have hdT : (O.take m ++ tkL (O.drop m) b (gss O b m k) 0 0).drop m = tkL (O.drop m) b (gss O b m k) 0 0 := by
      have : (O.take m).length = m := by simp; omega
      rw [List.drop_append_of_le_length (by omega), List.drop_of_length_le (by omega)]; rfl
    have htT : (O.take m ++ tkL (O.drop m) b (gss O b m k) 0 0).take m = O.take m := by
      have : (O.take m).length = m := by simp; omega
      rw [List.take_append_of_le_length (by omega), List.take_of_length_le (by omega)]
    rw [hdT, htT] at c3
    have hlT : (O.take m ++ tkL (O.drop m) b (gss O b m k) 0 0).length = L := by simp [hTl]; omega
    have r1 : (ws O)[m + b.length]? = some (.int .u32 (O.getD (m + (k + 2)) 0 : Nat)) := by rw [← hk]; exact zbk (by omega)
    have r2 := zbk (X := O) (i := m + (k + 1)) (by omega)
    have r3 := zbk (X := O) (i := m + k) (by omega)
    have r4 := zbk (X := b) (i := k + 1) (by omega)
    have r5 := zbk (X := b) (i := k) (by omega)
    have t1 : ((m : Int) + b.length).toNat = m + b.length := by omega
    have t2 : ((m : Int) + b.length - 1).toNat = m + (k + 1) := by omega
    have t3 : ((m : Int) + b.length - 2).toNat = m + k := by omega
    have t4 : ((b.length : Int) - 1).toNat = k + 1 := by omega
    have t5 : ((b.length : Int) - 2).toNat = k := by omega
    have u1 : m + (k + 1) < L := by omega
    have u2 : m + k < L := by omega
    have u3 : k + 1 < b.length := by omega
    have u4 : k < b.length := by omega
    have s0 : ∀ y : Nat, (ws Q).take m ++ .int .u32 (y : Int) :: (ws Q).drop (m + 1) = ws (Q.set m y) := fun y => zbm (by omega) rfl
    have hmQ : m < L - b.length := by omega
    have hxx : 0 < gss O b m k → ((gss O b m k : Nat) : Int) - 1 = ((gss O b m k - 1 : Nat) : Int) := by omega
    clear hA hb hL hwO hTw hTl hdT htT ht
    generalize O.take m ++ tkL (O.drop m) b (gss O b m k) 0 0 = T1 at *
    generalize O.take m ++ gvL (tkL (O.drop m) b (gss O b m k) 0 0) b 0 = T2 at *
    generalize tkW (O.drop m) b (gss O b m k) 0 0 = tw at *
    generalize gss O b m k = x at *
    generalize O.getD (m + (k + 2)) 0 = a2 at *
    generalize O.getD (m + (k + 1)) 0 = a1' at *
    generalize O.getD (m + k) 0 = a0 at *
    generalize b.getD (k + 1) 0 = bb1 at *
    generalize b.getD k 0 = bb0 at *
    (repeat (first | with_reducible (first | refine WL.seq ?_ | refine WL.skip ?_ | refine WL.label ?_ | refine WL.block ?_ | refine WL.scope ?_ | refine WL.nilS ?_ | refine WL.reS ?_ | refine WL.exS ?_ | refine WL.nilB ?_ | refine WL.nilT ?_ | refine WL.exit ?_ | refine WL.ret ?_ | refine WL.exT ?_ | refine WL.exB ?_ | refine WL.exN rfl ?_ | refine WL.reT ?_ | refine WL.reB ?_) | ((first | refine WL.reg rfl ?_ | refine WL.regT zai rfl ?_); (conv => { arg 3; simp [prep, prep1] }); (repeat (first | (refine zae ?_ ?_; (focus (simp; done)); (conv => { arg 4; simp (disch := omega) [h7, h0, h1, h5, hs0, r1, r2, r3, r4, r5, t1, t2, t3, t4, t5, u1, u2, u3, u4, hmL, hO] }); (first | (first | refine zaa ?_ | (refine zac ?_; (conv => { arg 5; simp }))) | (refine zal true rfl rfl ⟨_, Tryz.func215, rfl, rfl⟩ ?_; (conv => { arg 6; simp (disch := omega) [h7, h0, h1, h5, hs0, r1, r2, r3, r4, r5, t1, t2, t3, t4, t5, u1, u2, u3, u4, hmL, hO] }); refine zaf (c1) rfl ?_; (conv => { arg 5; simp (disch := omega) [h7, h0, h1, h5, hs0, r1, r2, r3, r4, r5, t1, t2, t3, t4, t5, u1, u2, u3, u4, hmL, hO] })))) | (refine zab rfl ?_ ?_; (focus (simp; done))))); with_reducible refine zad ?_; (first | refine ⟨rfl, ?_⟩ | refine ⟨by simp [quietB], by simp [quietU], ?_⟩ | skip)) | (refine WL.cond ?_; (conv => { arg 1; simp (disch := omega) [h7, h0, h1, h5, hs0, r1, r2, r3, r4, r5, t1, t2, t3, t4, t5, u1, u2, u3, u4, hmL, hO] }); with_reducible (first | refine zaj ?_ | refine zak ?_ | refine zag (by omega) ?_ | refine zah (by omega) ?_))))
    clear r1 r2 r3 r4 r5 t1 t2 t3 t4 t5 u1 u2 u3 u4
    (first | refine WL.reg rfl ?_ | refine WL.regT zai rfl ?_); (conv => { arg 3; simp [prep, prep1] }); (repeat (first | (refine zae ?_ ?_; (focus (simp; done)); (conv => { arg 4; simp (disch := omega) [h0, h1, h7] }); (first | (first | refine zaa ?_ | (refine zac ?_; (conv => { arg 5; simp }))))) | (refine zab rfl ?_ ?_; (focus (simp; done)))))
    refine zbu [⟨0, 0, 0⟩] [] [] true c2 ⟨_, Tryz.func216, rfl, rfl⟩ rfl rfl rfl (by simp (disch := omega) [h0, h1, hs0, idx]) (by simp (disch := omega) [hs0, idx]) (by simp) (by simp) ?_; (conv => { arg 5; simp (disch := omega)  })
    (repeat (first | (refine zae ?_ ?_; (focus (simp; done)); (conv => { arg 4; simp (disch := omega)  }); (first | refine zaa ?_ | (refine zac ?_; (conv => { arg 5; simp })))) | (refine zab rfl ?_ ?_; (focus (simp; done))))); with_reducible refine zad ?_
    by_cases htw : 0 < tw
    · obtain ⟨hx0, hI⟩ := z2 htw
      have hxx := hxx hx0
      have hxm : ((x : Int) - 1) % 4294967296 = ((x - 1 : Nat) : Int) := by omega
      (repeat (first | with_reducible (first | refine WL.seq ?_ | refine WL.skip ?_ | refine WL.label ?_ | refine WL.block ?_ | refine WL.scope ?_ | refine WL.nilS ?_ | refine WL.reS ?_ | refine WL.exS ?_ | refine WL.nilB ?_ | refine WL.nilT ?_ | refine WL.exit ?_ | refine WL.ret ?_ | refine WL.exT ?_ | refine WL.exB ?_ | refine WL.exN rfl ?_ | refine WL.reT ?_ | refine WL.reB ?_) | ((first | refine WL.reg rfl ?_ | refine WL.regT zai rfl ?_); (conv => { arg 3; simp [prep, prep1] }); (repeat (first | (refine zae ?_ ?_; (focus (simp; done)); (conv => { arg 4; simp (disch := omega) [htw, hxm] }); (first | (first | refine zaa ?_ | (refine zac ?_; (conv => { arg 5; simp }))))) | (refine zab rfl ?_ ?_; (focus (simp; done))))); with_reducible refine zad ?_; (first | refine ⟨rfl, ?_⟩ | refine ⟨by simp [quietB], by simp [quietU], ?_⟩ | skip)) | (refine WL.cond ?_; (conv => { arg 1; simp (disch := omega) [htw, hxm] }); with_reducible (first | refine zaj ?_ | refine zak ?_ | refine zag (by omega) ?_ | refine zah (by omega) ?_))))
      (first | refine WL.reg rfl ?_ | refine WL.regT zai rfl ?_); (conv => { arg 3; simp [prep, prep1] }); (repeat (first | (refine zae ?_ ?_; (focus (simp; done)); (conv => { arg 4; simp (disch := omega) [h0, h1, h7] }); (first | (first | refine zaa ?_ | (refine zac ?_; (conv => { arg 5; simp }))))) | (refine zab rfl ?_ ?_; (focus (simp; done)))))
      refine zbu [⟨0, 0, 0⟩] [] [] true c3 ⟨_, Tryz.func217, rfl, rfl⟩ rfl rfl rfl (by simp (disch := omega) [h0, h1, hs0, idx]) (by simp (disch := omega) [hs0, idx]) (by simp) (by simp) ?_; (conv => { arg 5; simp (disch := omega)  })
      (repeat (first | (refine zae ?_ ?_; (focus (simp; done)); (conv => { arg 4; simp (disch := omega)  }); (first | refine zaa ?_ | (refine zac ?_; (conv => { arg 5; simp })))) | (refine zab rfl ?_ ?_; (focus (simp; done))))); with_reducible refine zad ?_
      (repeat (first | with_reducible (first | refine WL.seq ?_ | refine WL.skip ?_ | refine WL.label ?_ | refine WL.block ?_ | refine WL.scope ?_ | refine WL.nilS ?_ | refine WL.reS ?_ | refine WL.exS ?_ | refine WL.nilB ?_ | refine WL.nilT ?_ | refine WL.exit ?_ | refine WL.ret ?_ | refine WL.exT ?_ | refine WL.exB ?_ | refine WL.exN rfl ?_ | refine WL.reT ?_ | refine WL.reB ?_) | ((first | refine WL.reg rfl ?_ | refine WL.regT zai rfl ?_); (conv => { arg 3; simp [prep, prep1] }); (repeat (first | (refine zae ?_ ?_; (focus (simp; done)); (conv => { arg 4; simp (disch := omega) [h6, h7, hs1, s0, hmQ, hQ] }); (first | (first | refine zaa ?_ | (refine zac ?_; (conv => { arg 5; simp }))))) | (refine zab rfl ?_ ?_; (focus (simp; done))))); with_reducible refine zad ?_; (first | refine ⟨rfl, ?_⟩ | refine ⟨by simp [quietB], by simp [quietU], ?_⟩ | skip)) | (refine WL.cond ?_; (conv => { arg 1; simp (disch := omega) [h6, h7, hs1, s0, hmQ, hQ] }); with_reducible (first | refine zaj ?_ | refine zak ?_ | refine zag (by omega) ?_ | refine zah (by omega) ?_))))
      exact ⟨m, by omega, T2, Q.set m (x - 1), by omega, by simp [h0], by simp [h1], by simp [h5], by simp [h6], by simp, by simp, by simp, hI⟩
    · have hI := z1 htw
      (repeat (first | with_reducible (first | refine WL.seq ?_ | refine WL.skip ?_ | refine WL.label ?_ | refine WL.block ?_ | refine WL.scope ?_ | refine WL.nilS ?_ | refine WL.reS ?_ | refine WL.exS ?_ | refine WL.nilB ?_ | refine WL.nilT ?_ | refine WL.exit ?_ | refine WL.ret ?_ | refine WL.exT ?_ | refine WL.exB ?_ | refine WL.exN rfl ?_ | refine WL.reT ?_ | refine WL.reB ?_) | ((first | refine WL.reg rfl ?_ | refine WL.regT zai rfl ?_); (conv => { arg 3; simp [prep, prep1] }); (repeat (first | (refine zae ?_ ?_; (focus (simp; done)); (conv => { arg 4; simp (disch := omega) [htw, h6, h7, hs1, s0, hmQ, hQ] }); (first | (first | refine zaa ?_ | (refine zac ?_; (conv => { arg 5; simp }))))) | (refine zab rfl ?_ ?_; (focus (simp; done))))); with_reducible refine zad ?_; (first | refine ⟨rfl, ?_⟩ | refine ⟨by simp [quietB], by simp [quietU], ?_⟩ | skip)) | (refine WL.cond ?_; (conv => { arg 1; simp (disch := omega) [htw, h6, h7, hs1, s0, hmQ, hQ] }); with_reducible (first | refine zaj ?_ | refine zak ?_ | refine zag (by omega) ?_ | refine zah (by omega) ?_))))
      exact ⟨m, by omega, T1, Q.set m x, by omega, by simp [h0], by simp [h1], by simp [h5], by simp [h6], by simp, by simp, by simp, hI⟩
theorem zrb {n : Nat} (h : n ≠ 0) : (nw n).getD ((nw n).length - 1) 0 ≠ 0 := by
  induction n using Nat.strongRecOn with
  | _ n ih =>
    rw [zde h]
    by_cases hd : n / 4294967296 = 0
    · rw [hd, zaw]; simp; omega
    · have := ih _ (by omega) hd
      cases hl : (nw (n / 4294967296)).length with
      | zero => rw [zde hd] at hl; simp at hl
      | succ k =>
        rw [hl] at this
        simp only [List.length_cons, hl, Nat.add_sub_cancel]
        simpa [List.getD_eq_getElem?_getD] using this
theorem zat {a b : Nat} (h : a ≤ b) : (nw a).length ≤ (nw b).length := by
  rcases Nat.lt_or_ge (nw b).length (nw a).length with h' | h'
  · have := zfu h'; omega
  · exact h'
theorem zbz {n k : Nat} (h : n < 4294967296 ^ k) : (nw n).length ≤ k := zrc n k h
theorem zao {l : List Nat} (h : wf l) : (nw (val l)).length ≤ l.length := by
  have := zcg l; rwa [zba h] at this
theorem zdi {n : Nat} (h : (nw n).length = 0) : n = 0 := by
  rcases Nat.eq_zero_or_pos n with h0 | h0
  · exact h0
  · rw [zde (by omega)] at h; simp at h
theorem mul_div_pow (a b s : Nat) (hb : 0 < b) : (a * 2 ^ s) / (b * 2 ^ s) = a / b ∧ (a * 2 ^ s) % (b * 2 ^ s) / 2 ^ s = a % b := by
  have hp : 0 < 2 ^ s := Nat.pow_pos (by decide)
  rw [Nat.mul_comm a, Nat.mul_comm b, Nat.mul_div_mul_left _ _ hp, Nat.mul_mod_mul_left, Nat.mul_div_cancel_left _ hp]
  exact ⟨rfl, rfl⟩
set_option maxHeartbeats 1000000 in
theorem zkj (a b : List Nat) (ha : wf a) (hb : wf b) (hla : a.length ≤ 274877906944) (hlb : b.length ≤ 274877906944) (h0 : 0 < val b) :
    CallOk Tryz.prog 162 [wl a, wl b] [] (.tup [wl (nw (val a / val b)), wl (nw (val a % val b)), .bool true]) [] := by
  have c1 := zcq b (by omega)
  rw [zba hb] at c1
  have hBl := zao hb
  have hBw := zaq (val b)
  have hBv := zam (val b)
  have htop := zrb (show val b ≠ 0 by omega)
  have hBn : (nw (val b)).length ≠ 0 := fun h => by have := zdi h; omega
  have c2 := znu a (nw (val b)) ha hBw (by omega) (by omega)
  rw [hBv] at c2
  by_cases hlt : val a < val b
  · have hc : cmpI (val a) (val b) = -1 := by simp [cmpI, hlt]
    rw [hc] at c2
    have c3 := zcq a (by omega)
    rw [zba ha] at c3
    rw [Nat.div_eq_of_lt hlt, Nat.mod_eq_of_lt hlt, zaw]
    generalize nw (val b) = B at *
    refine CallOk.of_wl Tryz.func162 rfl rfl rfl (Nat.le_of_ble_eq_true rfl) ?_
    (repeat (first | with_reducible (first | refine WL.seq ?_ | refine WL.skip ?_ | refine WL.label ?_ | refine WL.block ?_ | refine WL.scope ?_ | refine WL.nilS ?_ | refine WL.reS ?_ | refine WL.exS ?_ | refine WL.nilB ?_ | refine WL.nilT ?_ | refine WL.exit ?_ | refine WL.ret ?_ | refine WL.exT ?_ | refine WL.exB ?_ | refine WL.exN rfl ?_ | refine WL.reT ?_ | refine WL.reB ?_) | ((first | refine WL.reg rfl ?_ | refine WL.regT zai rfl ?_); (conv => { arg 3; simp [prep, prep1] }); (repeat (first | (refine zae ?_ ?_; (focus (simp; done)); (conv => { arg 4; simp (disch := omega) [hBn, ws] }); (first | (first | refine zaa ?_ | (refine zac ?_; (conv => { arg 5; simp }))) | ((first | refine zal true rfl rfl ⟨_, Tryz.func126, rfl, rfl⟩ ?_ | refine zal true rfl rfl ⟨_, Tryz.func140, rfl, rfl⟩ ?_); (conv => { arg 6; simp (disch := omega) [hBn, ws] }); (first | refine zaf (c1) rfl ?_ | refine zaf (c2) rfl ?_ | refine zaf (c3) rfl ?_); (conv => { arg 5; simp (disch := omega) [hBn, ws] })))) | (refine zab rfl ?_ ?_; (focus (simp; done))))); with_reducible refine zad ?_; (first | refine ⟨rfl, ?_⟩ | refine ⟨by simp [quietB], by simp [quietU], ?_⟩ | skip)) | (refine WL.cond ?_; (conv => { arg 1; simp (disch := omega) [hBn, ws] }); with_reducible (first | refine zaj ?_ | refine zak ?_ | refine zag (by omega) ?_ | refine zah (by omega) ?_))))
    refine ⟨[], ?_⟩
    simp (disch := omega) [ws]
  have hc : ¬ cmpI (val a) (val b) < 0 := by unfold cmpI; rw [if_neg hlt]; split <;> simp
  by_cases h1 : (nw (val b)).length = 1
  · obtain ⟨x, hx⟩ : ∃ x, nw (val b) = [x] := by
      match h : nw (val b), h1 with
      | [x], _ => exact ⟨x, rfl⟩
    rw [hx] at hBw hBv c1 c2
    have hxv : x = val b := by rw [← hBv]; simp [val]
    have hx1 : x < 4294967296 := (wf_cons.1 hBw).1
    have c4 := znr a x ha (by omega) hx1 (by omega)
    have hm : val a % x < x := Nat.mod_lt _ (by omega)
    have c5 := zoo (val a % x) (by omega)
    rw [← hxv] at hc c2 ⊢
    generalize val a % x = r at *
    generalize val a / x = q at *
    refine CallOk.of_wl Tryz.func162 rfl rfl rfl (Nat.le_of_ble_eq_true rfl) ?_
    (repeat (first | with_reducible (first | refine WL.seq ?_ | refine WL.skip ?_ | refine WL.label ?_ | refine WL.block ?_ | refine WL.scope ?_ | refine WL.nilS ?_ | refine WL.reS ?_ | refine WL.exS ?_ | refine WL.nilB ?_ | refine WL.nilT ?_ | refine WL.exit ?_ | refine WL.ret ?_ | refine WL.exT ?_ | refine WL.exB ?_ | refine WL.exN rfl ?_ | refine WL.reT ?_ | refine WL.reB ?_) | ((first | refine WL.reg rfl ?_ | refine WL.regT zai rfl ?_); (conv => { arg 3; simp [prep, prep1] }); (repeat (first | (refine zae ?_ ?_; (focus (simp; done)); (conv => { arg 4; simp (disch := omega) [hc, ws] }); (first | (first | refine zaa ?_ | (refine zac ?_; (conv => { arg 5; simp }))) | ((first | refine zal true rfl rfl ⟨_, Tryz.func126, rfl, rfl⟩ ?_ | refine zal true rfl rfl ⟨_, Tryz.func140, rfl, rfl⟩ ?_ | refine zal true rfl rfl ⟨_, Tryz.func180, rfl, rfl⟩ ?_ | refine zal true rfl rfl ⟨_, Tryz.func106, rfl, rfl⟩ ?_); (conv => { arg 6; simp (disch := omega) [hc, ws] }); (first | refine zaf (c1) rfl ?_ | refine zaf (c2) rfl ?_ | refine zaf (c4) rfl ?_ | refine zaf (c5) rfl ?_); (conv => { arg 5; simp (disch := omega) [hc, ws] })))) | (refine zab rfl ?_ ?_; (focus (simp; done))))); with_reducible refine zad ?_; (first | refine ⟨rfl, ?_⟩ | refine ⟨by simp [quietB], by simp [quietU], ?_⟩ | skip)) | (refine WL.cond ?_; (conv => { arg 1; simp (disch := omega) [hc, ws] }); with_reducible (first | refine zaj ?_ | refine zak ?_ | refine zag (by omega) ?_ | refine zah (by omega) ?_))))
    refine ⟨[], ?_⟩
    simp (disch := omega) [ws]
  -- two words or more
  have hB2 : 2 ≤ (nw (val b)).length := by omega
  have htl := zbl hBw ((nw (val b)).length - 1)
  have hbit : 1 ≤ bitL ((nw (val b)).getD ((nw (val b)).length - 1) 0) := by rw [zfc htop]; omega
  have hbit2 : bitL ((nw (val b)).getD ((nw (val b)).length - 1) 0) ≤ 32 := zky htl
  have c4 := limbLen _ htl
  have rB := zbk (X := nw (val b)) (i := (nw (val b)).length - 1) (by omega)
  generalize (nw (val b)).getD ((nw (val b)).length - 1) 0 = top at *
  obtain ⟨s, hs⟩ : ∃ s, s + bitL top = 32 := ⟨32 - bitL top, by omega⟩
  have hs32 : s < 32 := by omega
  have hsI : (32 : Int) - (bitL top : Nat) = (s : Int) := by omega
  have c5 := zpf a s ha hs32 (by omega)
  have c6 := twosUp (nw (val b)) s hBw hs32 (by omega)
  rw [hBv] at c6
  have hp : 0 < 2 ^ s := Nat.pow_pos (by decide)
  have hp32 : 2 ^ s ≤ 4294967296 := Nat.le_trans (Nat.pow_le_pow_right (by decide) (show s ≤ 32 by omega)) (by decide)
  have hle : val b * 2 ^ s ≤ val a * 2 ^ s := Nat.mul_le_mul_right _ (by omega)
  have hlen : (nw (val b * 2 ^ s)).length ≤ (nw (val a * 2 ^ s)).length := zat hle
  have hlen2 : (nw (val b)).length ≤ (nw (val b * 2 ^ s)).length := zat (Nat.le_mul_of_pos_right _ hp)
  have hXl : (nw (val a * 2 ^ s)).length ≤ a.length + 1 := by
    refine zbz ?_
    have := zax ha
    rw [Nat.pow_succ]
    exact Nat.lt_of_le_of_lt (Nat.mul_le_mul_left _ hp32) (Nat.mul_lt_mul_of_pos_right this (by decide))
  have hvs : 0 < val b * 2 ^ s := Nat.mul_pos h0 hp
  obtain ⟨k, hk⟩ : ∃ k, k + 2 = (nw (val b * 2 ^ s)).length := ⟨(nw (val b * 2 ^ s)).length - 2, by omega⟩
  have htop2 : 0 < (nw (val b * 2 ^ s)).getD (k + 1) 0 := by
    have := zrb (show val b * 2 ^ s ≠ 0 by omega)
    rw [show (nw (val b * 2 ^ s)).length - 1 = k + 1 by omega] at this
    omega
  have hAw : wf (nw (val a * 2 ^ s) ++ [0]) := zir (zaq _) (by intro x hx; simp at hx; omega)
  have hAl : (nw (val a * 2 ^ s) ++ [0]).length = (nw (val a * 2 ^ s)).length + 1 := by simp
  have hAv : val (nw (val a * 2 ^ s) ++ [0]) = val a * 2 ^ s := by rw [zdn, zam]; simp [val]
  have hAt : val ((nw (val a * 2 ^ s) ++ [0]).drop ((nw (val a * 2 ^ s)).length + 1 - (nw (val b * 2 ^ s)).length)) < val (nw (val b * 2 ^ s)) := by
    have hge := zrn (show val b * 2 ^ s ≠ 0 by omega)
    rw [zam]
    refine Nat.lt_of_lt_of_le ?_ hge
    rw [List.drop_append_of_le_length (by omega), zdn]
    have h3 := zax (zhn (zaq (val a * 2 ^ s)) ((nw (val a * 2 ^ s)).length + 1 - (nw (val b * 2 ^ s)).length))
    rw [List.length_drop] at h3
    rw [show (nw (val a * 2 ^ s)).length - ((nw (val a * 2 ^ s)).length + 1 - (nw (val b * 2 ^ s)).length) = (nw (val b * 2 ^ s)).length - 1 by omega] at h3
    simpa [val] using h3
  have c7 := quotLong 1 (nw (val a * 2 ^ s) ++ [0]) (nw (val b * 2 ^ s)) k ((nw (val a * 2 ^ s)).length + 1) hAw (zaq _) hk hAl (by omega) htop2 hAt (by omega)
  obtain ⟨m1, m2⟩ := mul_div_pow (val a) (val b) s h0
  rw [hAv, zam, m1] at c7
  have hq1 : val (dg ((nw (val a * 2 ^ s)).length + 1 - (nw (val b * 2 ^ s)).length) (val a / val b)) = val a / val b := by
    refine zpa _ _ ?_
    have hA := zax (zaq (val a * 2 ^ s))
    rw [zam] at hA
    have hge := zrn (show val b * 2 ^ s ≠ 0 by omega)
    have hqb := Nat.div_mul_le_self (val a * 2 ^ s) (val b * 2 ^ s)
    rw [m1] at hqb
    have he : (nw (val a * 2 ^ s)).length = ((nw (val a * 2 ^ s)).length + 1 - (nw (val b * 2 ^ s)).length) + ((nw (val b * 2 ^ s)).length - 1) := by omega
    rw [he, Nat.pow_add] at hA
    have h4 := Nat.mul_le_mul_left (val a / val b) hge
    exact Nat.lt_of_mul_lt_mul_right (Nat.lt_of_le_of_lt h4 (Nat.lt_of_le_of_lt hqb hA))
  have hr1 : val (dg ((nw (val a * 2 ^ s)).length + 1) (val a * 2 ^ s % (val b * 2 ^ s))) = val a * 2 ^ s % (val b * 2 ^ s) := by
    refine zpa _ _ (Nat.lt_of_le_of_lt (Nat.mod_le _ _) ?_)
    have hA := zax hAw
    rwa [hAv, hAl] at hA
  have c8 := zcq (dg ((nw (val a * 2 ^ s)).length + 1 - (nw (val b * 2 ^ s)).length) (val a / val b)) (by rw [zjn]; omega)
  rw [zba (zrj _ _), hq1] at c8
  have c9 := twosDown (dg ((nw (val a * 2 ^ s)).length + 1) (val a * 2 ^ s % (val b * 2 ^ s))) s (zrj _ _) hs32 (by rw [zjn]; omega)
  rw [hr1, m2] at c9
  have hl1 := zjn ((nw (val a * 2 ^ s)).length + 1 - (nw (val b * 2 ^ s)).length) (val a / val b)
  have hl2 := zjn ((nw (val a * 2 ^ s)).length + 1) (val a * 2 ^ s % (val b * 2 ^ s))
  have tB : (((nw (val b)).length : Int) - 1).toNat = (nw (val b)).length - 1 := by omega
  have hXl2 : (nw (val a * 2 ^ s)).length ≤ 1099511627775 := by omega
  have hW : ws (nw (val a * 2 ^ s)) ++ [PV.int .u32 0] = ws (nw (val a * 2 ^ s) ++ [0]) := by simp [ws]
  clear hq1 hr1 m1 m2 hAv hAt hAw htop2 hvs hlen2 hle hp hp32 hk htop hBv hBw hs hbit hbit2 htl
  generalize dg ((nw (val a * 2 ^ s)).length + 1 - (nw (val b * 2 ^ s)).length) (val a / val b) = Q at *
  generalize dg ((nw (val a * 2 ^ s)).length + 1) (val a * 2 ^ s % (val b * 2 ^ s)) = R at *
  generalize nw (val a * 2 ^ s) = X at *
  generalize nw (val b * 2 ^ s) = Bs at *
  generalize nw (val b) = B at *
  refine CallOk.of_wl Tryz.func162 rfl rfl rfl (Nat.le_of_ble_eq_true rfl) ?_
  (repeat (first | with_reducible (first | refine WL.seq ?_ | refine WL.skip ?_ | refine WL.label ?_ | refine WL.block ?_ | refine WL.scope ?_ | refine WL.nilS ?_ | refine WL.reS ?_ | refine WL.exS ?_ | refine WL.nilB ?_ | refine WL.nilT ?_ | refine WL.exit ?_ | refine WL.ret ?_ | refine WL.exT ?_ | refine WL.exB ?_ | refine WL.exN rfl ?_ | refine WL.reT ?_ | refine WL.reB ?_) | ((first | refine WL.reg rfl ?_ | refine WL.regT zai rfl ?_); (conv => { arg 3; simp [prep, prep1] }); (repeat (first | (refine zae ?_ ?_; (focus (simp; done)); (conv => { arg 4; simp (disch := omega) [hc, hBn, h1, rB, tB, hsI, zbc, hW] }); (first | (first | refine zaa ?_ | (refine zac ?_; (conv => { arg 5; simp }))) | ((first | refine zal true rfl rfl ⟨_, Tryz.func126, rfl, rfl⟩ ?_ | refine zal true rfl rfl ⟨_, Tryz.func140, rfl, rfl⟩ ?_ | refine zal true rfl rfl ⟨_, Tryz.func188, rfl, rfl⟩ ?_ | refine zal true rfl rfl ⟨_, Tryz.func192, rfl, rfl⟩ ?_); (conv => { arg 6; simp (disch := omega) [hc, hBn, h1, rB, tB, hsI, zbc, hW] }); (first | refine zaf (c1) rfl ?_ | refine zaf (c2) rfl ?_ | refine zaf (c4) rfl ?_ | refine zaf (c5) rfl ?_); (conv => { arg 5; simp (disch := omega) [hc, hBn, h1, rB, tB, hsI, zbc, hW] })))) | (refine zab rfl ?_ ?_; (focus (simp; done))))); with_reducible refine zad ?_; (first | refine ⟨rfl, ?_⟩ | refine ⟨by simp [quietB], by simp [quietU], ?_⟩ | skip)) | (refine WL.cond ?_; (conv => { arg 1; simp (disch := omega) [hc, hBn, h1, rB, tB, hsI, zbc, hW] }); with_reducible (first | refine zaj ?_ | refine zak ?_ | refine zag (by omega) ?_ | refine zah (by omega) ?_))))
  (first | refine WL.reg rfl ?_ | refine WL.regT zai rfl ?_); (conv => { arg 3; simp [prep, prep1] }); (repeat (first | (refine zae ?_ ?_; (focus (simp; done)); (conv => { arg 4; simp (disch := omega)  }); (first | (first | refine zaa ?_ | (refine zac ?_; (conv => { arg 5; simp }))) | (refine zal true rfl rfl ⟨_, Tryz.func192, rfl, rfl⟩ ?_; (conv => { arg 6; simp (disch := omega)  }); refine zaf (c6) rfl ?_; (conv => { arg 5; simp (disch := omega)  })))) | (refine zab rfl ?_ ?_; (focus (simp; done)))))
  refine zbu [⟨52, 0, 0⟩] [] [] true c7 ⟨_, Tryz.func193, rfl, rfl⟩ rfl rfl rfl (by simp (disch := omega) [idx]) (by simp (disch := omega) [idx]) (by simp) (by simp) ?_; (conv => { arg 5; simp (disch := omega)  })
  (repeat (first | (refine zae ?_ ?_; (focus (simp; done)); (conv => { arg 4; simp (disch := omega)  }); (first | refine zaa ?_ | (refine zac ?_; (conv => { arg 5; simp })))) | (refine zab rfl ?_ ?_; (focus (simp; done))))); with_reducible refine zad ?_
  have hR : (ws R).take (X.length + 1) = ws R := by rw [← hl2, zbc]
  rw [zmg R, hl2] at c9
  (repeat (first | with_reducible (first | refine WL.seq ?_ | refine WL.skip ?_ | refine WL.label ?_ | refine WL.block ?_ | refine WL.scope ?_ | refine WL.nilS ?_ | refine WL.reS ?_ | refine WL.exS ?_ | refine WL.nilB ?_ | refine WL.nilT ?_ | refine WL.exit ?_ | refine WL.ret ?_ | refine WL.exT ?_ | refine WL.exB ?_ | refine WL.exN rfl ?_ | refine WL.reT ?_ | refine WL.reB ?_) | ((first | refine WL.reg rfl ?_ | refine WL.regT zai rfl ?_); (conv => { arg 3; simp [prep, prep1] }); (repeat (first | (refine zae ?_ ?_; (focus (simp; done)); (conv => { arg 4; simp (disch := omega) [hR] }); (first | (first | refine zaa ?_ | (refine zac ?_; (conv => { arg 5; simp }))) | ((first | refine zal true rfl rfl ⟨_, Tryz.func126, rfl, rfl⟩ ?_ | refine zal true rfl rfl ⟨_, Tryz.func194, rfl, rfl⟩ ?_); (conv => { arg 6; simp (disch := omega) [hR] }); (first | refine zaf (c8) rfl ?_ | refine zaf (c9) rfl ?_); (conv => { arg 5; simp (disch := omega) [hR] })))) | (refine zab rfl ?_ ?_; (focus (simp; done))))); with_reducible refine zad ?_; (first | refine ⟨rfl, ?_⟩ | refine ⟨by simp [quietB], by simp [quietU], ?_⟩ | skip)) | (refine WL.cond ?_; (conv => { arg 1; simp (disch := omega) [hR] }); with_reducible (first | refine zaj ?_ | refine zak ?_ | refine zag (by omega) ?_ | refine zah (by omega) ?_))))
  refine ⟨[], ?_⟩
  simp (disch := omega) 
theorem znt (l : List Nat) (hw : wf l) (hl : l.length ≤ 1099511627776) (hv : val l < 18446744073709551616) : CallOk Tryz.prog 190 [wl l] [] (.tup [.int .u64 (val l), .bool true]) [] := by
  have c1 := zcj l hl
  rw [zba hw] at c1
  have hA := zaq (val l)
  have hAl : (nw (val l)).length ≤ 2 := zbz (by simpa using hv)
  have hAv := zam (val l)
  generalize nw (val l) = A at *
  refine CallOk.of_wl Tryz.func190 rfl rfl rfl (Nat.le_of_ble_eq_true rfl) ?_
  (repeat (first | with_reducible (first | refine WL.seq ?_ | refine WL.skip ?_ | refine WL.label ?_ | refine WL.block ?_ | refine WL.scope ?_ | refine WL.nilS ?_ | refine WL.reS ?_ | refine WL.exS ?_ | refine WL.nilB ?_ | refine WL.nilT ?_ | refine WL.exit ?_ | refine WL.ret ?_ | refine WL.exT ?_ | refine WL.exB ?_ | refine WL.exN rfl ?_ | refine WL.reT ?_ | refine WL.reB ?_) | ((first | refine WL.reg rfl ?_ | refine WL.regT zai rfl ?_); (conv => { arg 3; simp [prep, prep1] }); (repeat (first | (refine zae ?_ ?_; (focus (simp; done)); (conv => { arg 4; simp (disch := omega)  }); (first | (first | refine zaa ?_ | (refine zac ?_; (conv => { arg 5; simp }))) | (refine zal true rfl rfl ⟨_, Tryz.func154, rfl, rfl⟩ ?_; (conv => { arg 6; simp (disch := omega)  }); refine zaf (c1) rfl ?_; (conv => { arg 5; simp (disch := omega)  })))) | (refine zab rfl ?_ ?_; (focus (simp; done))))); with_reducible refine zad ?_; (first | refine ⟨rfl, ?_⟩ | refine ⟨by simp [quietB], by simp [quietU], ?_⟩ | skip)) | (refine WL.cond ?_; (conv => { arg 1; simp (disch := omega)  }); with_reducible (first | refine zaj ?_ | refine zak ?_ | refine zag (by omega) ?_ | refine zah (by omega) ?_))))
  refine WL.loop (fun m s => ∃ i : Nat, m = A.length - i ∧ i ≤ A.length ∧ s.frame 4 = .int .u64 (val (A.take i)) ∧ s.frame 12 = wl A ∧ s.frame 13 = .int .i64 A.length ∧ s.frame 14 = .int .i64 i) A.length ?_ ?_
  · exact ⟨0, by omega, by omega, by simp [val], by simp, by simp, by simp⟩
  rintro m ⟨f, σ, g⟩ ⟨i, rfl, hi, h4, h12, h13, h14⟩
  simp only at h4 h12 h13 h14
  by_cases hi' : i < A.length
  · have hx := zbl hA i
    have rA := zbk hi'
    have hvt := zed hi'
    have hlt := zax (zdm hA i)
    rw [List.length_take, Nat.min_eq_left (by omega)] at hlt
    have hlt2 := zax (zdm hA (i + 1))
    rw [List.length_take, Nat.min_eq_left (by omega)] at hlt2
    generalize A.getD i 0 = x at *
    have hi2 : i = 0 ∨ i = 1 := by omega
    rcases hi2 with rfl | rfl
    · simp only [Nat.pow_zero, Nat.one_mul, Nat.zero_add, Nat.pow_one] at hlt hlt2 hvt
      generalize val (A.take 0) = n at *
      generalize hn2 : val (A.take (0 + 1)) = n2 at *
      have hn3 : val (A.take 1) = n2 := hn2
      have hor := or_u64' (x := (x : Int)) (y := (n : Int)) x n 0 (by simp) rfl (by omega) (by omega)
      have hn : ((2 ^ 0 * x + n : Nat) : Int) = (n2 : Int) := by omega
      rw [hn] at hor
      (repeat (first | with_reducible (first | refine WL.seq ?_ | refine WL.skip ?_ | refine WL.label ?_ | refine WL.block ?_ | refine WL.scope ?_ | refine WL.nilS ?_ | refine WL.reS ?_ | refine WL.exS ?_ | refine WL.nilB ?_ | refine WL.nilT ?_ | refine WL.exit ?_ | refine WL.ret ?_ | refine WL.exT ?_ | refine WL.exB ?_ | refine WL.exN rfl ?_ | refine WL.reT ?_ | refine WL.reB ?_) | ((first | refine WL.reg rfl ?_ | refine WL.regT zai rfl ?_); (conv => { arg 3; simp [prep, prep1] }); (repeat (first | (refine zae ?_ ?_; (focus (simp; done)); (conv => { arg 4; simp (disch := omega) [h4, h12, h13, h14, hi', rA, hor] }); (first | (first | refine zaa ?_ | (refine zac ?_; (conv => { arg 5; simp }))))) | (refine zab rfl ?_ ?_; (focus (simp; done))))); with_reducible refine zad ?_; (first | refine ⟨rfl, ?_⟩ | refine ⟨by simp [quietB], by simp [quietU], ?_⟩ | skip)) | (refine WL.cond ?_; (conv => { arg 1; simp (disch := omega) [h4, h12, h13, h14, hi', rA, hor] }); with_reducible (first | refine zaj ?_ | refine zak ?_ | refine zag (by omega) ?_ | refine zah (by omega) ?_))))
      exact ⟨A.length - 1, by omega, 1, by omega, by omega, by simp [hn3], by simp [h12], by simp [h13], by simp⟩
    · simp only [Nat.pow_one] at hlt hvt
      generalize val (A.take 1) = n at *
      generalize hn2 : val (A.take (1 + 1)) = n2 at *
      have hn3 : val (A.take 2) = n2 := hn2
      have hor := or_u64' (x := (x : Int) * 4294967296) (y := (n : Int)) x n 32 (by omega) rfl (by omega) (by omega)
      have hn : ((2 ^ 32 * x + n : Nat) : Int) = (n2 : Int) := by omega
      rw [hn] at hor
      (repeat (first | with_reducible (first | refine WL.seq ?_ | refine WL.skip ?_ | refine WL.label ?_ | refine WL.block ?_ | refine WL.scope ?_ | refine WL.nilS ?_ | refine WL.reS ?_ | refine WL.exS ?_ | refine WL.nilB ?_ | refine WL.nilT ?_ | refine WL.exit ?_ | refine WL.ret ?_ | refine WL.exT ?_ | refine WL.exB ?_ | refine WL.exN rfl ?_ | refine WL.reT ?_ | refine WL.reB ?_) | ((first | refine WL.reg rfl ?_ | refine WL.regT zai rfl ?_); (conv => { arg 3; simp [prep, prep1] }); (repeat (first | (refine zae ?_ ?_; (focus (simp; done)); (conv => { arg 4; simp (disch := omega) [h4, h12, h13, h14, hi', rA, hor] }); (first | (first | refine zaa ?_ | (refine zac ?_; (conv => { arg 5; simp }))))) | (refine zab rfl ?_ ?_; (focus (simp; done))))); with_reducible refine zad ?_; (first | refine ⟨rfl, ?_⟩ | refine ⟨by simp [quietB], by simp [quietU], ?_⟩ | skip)) | (refine WL.cond ?_; (conv => { arg 1; simp (disch := omega) [h4, h12, h13, h14, hi', rA, hor] }); with_reducible (first | refine zaj ?_ | refine zak ?_ | refine zag (by omega) ?_ | refine zah (by omega) ?_))))
      exact ⟨A.length - 2, by omega, 2, by omega, by omega, by simp [hn3], by simp [h12], by simp [h13], by simp⟩
  · have hia : i = A.length := by omega
    subst hia
    rw [List.take_length, hAv] at h4
    (repeat (first | with_reducible (first | refine WL.seq ?_ | refine WL.skip ?_ | refine WL.label ?_ | refine WL.block ?_ | refine WL.scope ?_ | refine WL.nilS ?_ | refine WL.reS ?_ | refine WL.exS ?_ | refine WL.nilB ?_ | refine WL.nilT ?_ | refine WL.exit ?_ | refine WL.ret ?_ | refine WL.exT ?_ | refine WL.exB ?_ | refine WL.exN rfl ?_ | refine WL.reT ?_ | refine WL.reB ?_) | ((first | refine WL.reg rfl ?_ | refine WL.regT zai rfl ?_); (conv => { arg 3; simp [prep, prep1] }); (repeat (first | (refine zae ?_ ?_; (focus (simp; done)); (conv => { arg 4; simp (disch := omega) [h4, h12, h13, h14] }); (first | (first | refine zaa ?_ | (refine zac ?_; (conv => { arg 5; simp }))))) | (refine zab rfl ?_ ?_; (focus (simp; done))))); with_reducible refine zad ?_; (first | refine ⟨rfl, ?_⟩ | refine ⟨by simp [quietB], by simp [quietU], ?_⟩ | skip)) | (refine WL.cond ?_; (conv => { arg 1; simp (disch := omega) [h4, h12, h13, h14] }); with_reducible (first | refine zaj ?_ | refine zak ?_ | refine zag (by omega) ?_ | refine zah (by omega) ?_))))
    refine ⟨[], ?_⟩
    simp (disch := omega) 
theorem commonSmall (x y : Nat) (hx : x < 18446744073709551616) (hy : y < 18446744073709551616) : CallOk Tryz.prog 191 [.int .u64 x, .int .u64 y] [] (.int .u64 (Nat.gcd x y)) [] := by
  refine CallOk.of_wl Tryz.func191 rfl rfl rfl (Nat.le_of_ble_eq_true rfl) ?_
  (repeat (first | with_reducible (first | refine WL.seq ?_ | refine WL.skip ?_ | refine WL.label ?_ | refine WL.block ?_ | refine WL.scope ?_ | refine WL.nilS ?_ | refine WL.reS ?_ | refine WL.exS ?_ | refine WL.nilB ?_ | refine WL.nilT ?_ | refine WL.exit ?_ | refine WL.ret ?_ | refine WL.exT ?_ | refine WL.exB ?_ | refine WL.exN rfl ?_ | refine WL.reT ?_ | refine WL.reB ?_) | ((first | refine WL.reg rfl ?_ | refine WL.regT zai rfl ?_); (conv => { arg 3; simp [prep, prep1] }); (repeat (first | (refine zae ?_ ?_; (focus (simp; done)); (conv => { arg 4; simp (disch := omega)  }); (first | (first | refine zaa ?_ | (refine zac ?_; (conv => { arg 5; simp }))))) | (refine zab rfl ?_ ?_; (focus (simp; done))))); with_reducible refine zad ?_; (first | refine ⟨rfl, ?_⟩ | refine ⟨by simp [quietB], by simp [quietU], ?_⟩ | skip)) | (refine WL.cond ?_; (conv => { arg 1; simp (disch := omega)  }); with_reducible (first | refine zaj ?_ | refine zak ?_ | refine zag (by omega) ?_ | refine zah (by omega) ?_))))
  refine WL.loop (fun m s => ∃ u v : Nat, m = v ∧ s.frame 0 = .int .u64 u ∧ s.frame 1 = .int .u64 v ∧ u < 18446744073709551616 ∧ v < 18446744073709551616 ∧ Nat.gcd u v = Nat.gcd x y) y ?_ ?_
  · exact ⟨x, y, rfl, by simp, by simp, hx, hy, rfl⟩
  rintro m ⟨f, σ, g⟩ ⟨u, v, rfl, h0, h1, hu, hv, hg⟩
  simp only at h0 h1
  by_cases hm : m = 0
  · subst hm
    rw [Nat.gcd_zero_right] at hg
    (repeat (first | with_reducible (first | refine WL.seq ?_ | refine WL.skip ?_ | refine WL.label ?_ | refine WL.block ?_ | refine WL.scope ?_ | refine WL.nilS ?_ | refine WL.reS ?_ | refine WL.exS ?_ | refine WL.nilB ?_ | refine WL.nilT ?_ | refine WL.exit ?_ | refine WL.ret ?_ | refine WL.exT ?_ | refine WL.exB ?_ | refine WL.exN rfl ?_ | refine WL.reT ?_ | refine WL.reB ?_) | ((first | refine WL.reg rfl ?_ | refine WL.regT zai rfl ?_); (conv => { arg 3; simp [prep, prep1] }); (repeat (first | (refine zae ?_ ?_; (focus (simp; done)); (conv => { arg 4; simp (disch := omega) [h0, h1] }); (first | (first | refine zaa ?_ | (refine zac ?_; (conv => { arg 5; simp }))))) | (refine zab rfl ?_ ?_; (focus (simp; done))))); with_reducible refine zad ?_; (first | refine ⟨rfl, ?_⟩ | refine ⟨by simp [quietB], by simp [quietU], ?_⟩ | skip)) | (refine WL.cond ?_; (conv => { arg 1; simp (disch := omega) [h0, h1] }); with_reducible (first | refine zaj ?_ | refine zak ?_ | refine zag (by omega) ?_ | refine zah (by omega) ?_))))
    refine ⟨[], ?_⟩
    simp (disch := omega) [hg]
  · have hlt : u % m < m := Nat.mod_lt _ (by omega)
    have e : (u : Int).tmod (m : Int) = ((u % m : Nat) : Int) := rfl
    rw [Nat.gcd_comm, Nat.gcd_rec, Nat.gcd_comm] at hg
    generalize u % m = r at *
    (repeat (first | with_reducible (first | refine WL.seq ?_ | refine WL.skip ?_ | refine WL.label ?_ | refine WL.block ?_ | refine WL.scope ?_ | refine WL.nilS ?_ | refine WL.reS ?_ | refine WL.exS ?_ | refine WL.nilB ?_ | refine WL.nilT ?_ | refine WL.exit ?_ | refine WL.ret ?_ | refine WL.exT ?_ | refine WL.exB ?_ | refine WL.exN rfl ?_ | refine WL.reT ?_ | refine WL.reB ?_) | ((first | refine WL.reg rfl ?_ | refine WL.regT zai rfl ?_); (conv => { arg 3; simp [prep, prep1] }); (repeat (first | (refine zae ?_ ?_; (focus (simp; done)); (conv => { arg 4; simp (disch := omega) [h0, h1, hm, e] }); (first | (first | refine zaa ?_ | (refine zac ?_; (conv => { arg 5; simp }))))) | (refine zab rfl ?_ ?_; (focus (simp; done))))); with_reducible refine zad ?_; (first | refine ⟨rfl, ?_⟩ | refine ⟨by simp [quietB], by simp [quietU], ?_⟩ | skip)) | (refine WL.cond ?_; (conv => { arg 1; simp (disch := omega) [h0, h1, hm, e] }); with_reducible (first | refine zaj ?_ | refine zak ?_ | refine zag (by omega) ?_ | refine zah (by omega) ?_))))
    exact ⟨r, hlt, m, r, rfl, by simp, by simp, hv, by omega, hg⟩
theorem commonGcd (a b : List Nat) (ha : wf a) (hb : wf b) (hla : a.length ≤ 274877906944) (hlb : b.length ≤ 274877906944) : CallOk Tryz.prog 160 [wl a, wl b] [] (wl (nw (Nat.gcd (val a) (val b)))) [] := by
  have c1 := zcq a (by omega)
  have c2 := zcq b (by omega)
  rw [zba ha] at c1
  rw [zba hb] at c2
  have hl1 := zao ha
  have hl2 := zao hb
  generalize val a = x at *
  generalize val b = y at *
  refine CallOk.of_wl Tryz.func160 rfl rfl rfl (Nat.le_of_ble_eq_true rfl) ?_
  (repeat (first | with_reducible (first | refine WL.seq ?_ | refine WL.skip ?_ | refine WL.label ?_ | refine WL.block ?_ | refine WL.scope ?_ | refine WL.nilS ?_ | refine WL.reS ?_ | refine WL.exS ?_ | refine WL.nilB ?_ | refine WL.nilT ?_ | refine WL.exit ?_ | refine WL.ret ?_ | refine WL.exT ?_ | refine WL.exB ?_ | refine WL.exN rfl ?_ | refine WL.reT ?_ | refine WL.reB ?_) | ((first | refine WL.reg rfl ?_ | refine WL.regT zai rfl ?_); (conv => { arg 3; simp [prep, prep1] }); (repeat (first | (refine zae ?_ ?_; (focus (simp; done)); (conv => { arg 4; simp (disch := omega)  }); (first | (first | refine zaa ?_ | (refine zac ?_; (conv => { arg 5; simp }))) | (refine zal true rfl rfl ⟨_, Tryz.func126, rfl, rfl⟩ ?_; (conv => { arg 6; simp (disch := omega)  }); (first | refine zaf (c1) rfl ?_ | refine zaf (c2) rfl ?_); (conv => { arg 5; simp (disch := omega)  })))) | (refine zab rfl ?_ ?_; (focus (simp; done))))); with_reducible refine zad ?_; (first | refine ⟨rfl, ?_⟩ | refine ⟨by simp [quietB], by simp [quietU], ?_⟩ | skip)) | (refine WL.cond ?_; (conv => { arg 1; simp (disch := omega)  }); with_reducible (first | refine zaj ?_ | refine zak ?_ | refine zag (by omega) ?_ | refine zah (by omega) ?_))))
  refine WL.loop (fun m s => ∃ u v : Nat, m = v ∧ s.frame 0 = wl (nw u) ∧ s.frame 1 = wl (nw v) ∧ (nw u).length ≤ 274877906944 ∧ (nw v).length ≤ 274877906944 ∧ Nat.gcd u v = Nat.gcd x y) y ?_ ?_
  · exact ⟨x, y, rfl, by simp, by simp, by omega, by omega, rfl⟩
  rintro m ⟨f, σ, g⟩ ⟨u, v, rfl, h0, h1, hu, hv, hg⟩
  simp only at h0 h1
  by_cases hm : 2 < (nw m).length
  · have hm0 : 0 < m := by
      rcases Nat.eq_zero_or_pos m with rfl | h
      · rw [zaw] at hm; simp at hm
      · exact h
    have c3 := zkj (nw u) (nw m) (zaq _) (zaq _) hu hv (by rw [zam]; exact hm0)
    rw [zam, zam] at c3
    have hlt : u % m < m := Nat.mod_lt _ hm0
    have hl3 : (nw (u % m)).length ≤ (nw m).length := zat (by omega)
    rw [Nat.gcd_comm, Nat.gcd_rec, Nat.gcd_comm] at hg
    generalize u % m = r at *
    (repeat (first | with_reducible (first | refine WL.seq ?_ | refine WL.skip ?_ | refine WL.label ?_ | refine WL.block ?_ | refine WL.scope ?_ | refine WL.nilS ?_ | refine WL.reS ?_ | refine WL.exS ?_ | refine WL.nilB ?_ | refine WL.nilT ?_ | refine WL.exit ?_ | refine WL.ret ?_ | refine WL.exT ?_ | refine WL.exB ?_ | refine WL.exN rfl ?_ | refine WL.reT ?_ | refine WL.reB ?_) | ((first | refine WL.reg rfl ?_ | refine WL.regT zai rfl ?_); (conv => { arg 3; simp [prep, prep1] }); (repeat (first | (refine zae ?_ ?_; (focus (simp; done)); (conv => { arg 4; simp (disch := omega) [h0, h1, hm] }); (first | (first | refine zaa ?_ | (refine zac ?_; (conv => { arg 5; simp }))) | (refine zal true rfl rfl ⟨_, Tryz.func162, rfl, rfl⟩ ?_; (conv => { arg 6; simp (disch := omega) [h0, h1, hm] }); refine zaf (c3) rfl ?_; (conv => { arg 5; simp (disch := omega) [h0, h1, hm] })))) | (refine zab rfl ?_ ?_; (focus (simp; done))))); with_reducible refine zad ?_; (first | refine ⟨rfl, ?_⟩ | refine ⟨by simp [quietB], by simp [quietU], ?_⟩ | skip)) | (refine WL.cond ?_; (conv => { arg 1; simp (disch := omega) [h0, h1, hm] }); with_reducible (first | refine zaj ?_ | refine zak ?_ | refine zag (by omega) ?_ | refine zah (by omega) ?_))))
    exact ⟨r, hlt, m, r, rfl, by simp, by simp, hv, by omega, hg⟩
  · by_cases hz : m = 0
    · subst hz
      rw [Nat.gcd_zero_right] at hg
      rw [zaw] at h1
      (repeat (first | with_reducible (first | refine WL.seq ?_ | refine WL.skip ?_ | refine WL.label ?_ | refine WL.block ?_ | refine WL.scope ?_ | refine WL.nilS ?_ | refine WL.reS ?_ | refine WL.exS ?_ | refine WL.nilB ?_ | refine WL.nilT ?_ | refine WL.exit ?_ | refine WL.ret ?_ | refine WL.exT ?_ | refine WL.exB ?_ | refine WL.exN rfl ?_ | refine WL.reT ?_ | refine WL.reB ?_) | ((first | refine WL.reg rfl ?_ | refine WL.regT zai rfl ?_); (conv => { arg 3; simp [prep, prep1] }); (repeat (first | (refine zae ?_ ?_; (focus (simp; done)); (conv => { arg 4; simp (disch := omega) [h0, h1] }); (first | (first | refine zaa ?_ | (refine zac ?_; (conv => { arg 5; simp }))))) | (refine zab rfl ?_ ?_; (focus (simp; done))))); with_reducible refine zad ?_; (first | refine ⟨rfl, ?_⟩ | refine ⟨by simp [quietB], by simp [quietU], ?_⟩ | skip)) | (refine WL.cond ?_; (conv => { arg 1; simp (disch := omega) [h0, h1] }); with_reducible (first | refine zaj ?_ | refine zak ?_ | refine zag (by omega) ?_ | refine zah (by omega) ?_))))
      refine ⟨[], ?_⟩
      simp (disch := omega) [hg]
    · have hne : ¬ (nw m).length = 0 := fun h => hz (zdi h)
      have hm64 : m < 18446744073709551616 := by
        have := zax (zaq m)
        rw [zam] at this
        exact Nat.lt_of_lt_of_le this (Nat.le_trans (Nat.pow_le_pow_right (by decide) (show (nw m).length ≤ 2 by omega)) (by decide))
      have c3 := zkj (nw u) (nw m) (zaq _) (zaq _) hu hv (by rw [zam]; omega)
      rw [zam, zam] at c3
      have hlt : u % m < m := Nat.mod_lt _ (by omega)
      have c4 := znt (nw m) (zaq _) (by omega) (by rw [zam]; exact hm64)
      have hl3 : (nw (u % m)).length ≤ (nw m).length := zat (by omega)
      have c5 := znt (nw (u % m)) (zaq _) (by omega) (by rw [zam]; omega)
      rw [zam] at c4 c5
      have c6 := commonSmall m (u % m) hm64 (by omega)
      rw [Nat.gcd_comm, Nat.gcd_rec, Nat.gcd_comm] at hg
      rw [hg] at c6
      have hgl : Nat.gcd x y ≤ m := by rw [← hg]; exact Nat.gcd_le_left _ (by omega)
      have c7 := zoo (Nat.gcd x y) (by omega)
      generalize u % m = r at *
      generalize Nat.gcd x y = gg at *
      (repeat (first | with_reducible (first | refine WL.seq ?_ | refine WL.skip ?_ | refine WL.label ?_ | refine WL.block ?_ | refine WL.scope ?_ | refine WL.nilS ?_ | refine WL.reS ?_ | refine WL.exS ?_ | refine WL.nilB ?_ | refine WL.nilT ?_ | refine WL.exit ?_ | refine WL.ret ?_ | refine WL.exT ?_ | refine WL.exB ?_ | refine WL.exN rfl ?_ | refine WL.reT ?_ | refine WL.reB ?_) | ((first | refine WL.reg rfl ?_ | refine WL.regT zai rfl ?_); (conv => { arg 3; simp [prep, prep1] }); (repeat (first | (refine zae ?_ ?_; (focus (simp; done)); (conv => { arg 4; simp (disch := omega) [h0, h1, hm, hne] }); (first | (first | refine zaa ?_ | (refine zac ?_; (conv => { arg 5; simp }))) | ((first | refine zal true rfl rfl ⟨_, Tryz.func162, rfl, rfl⟩ ?_ | refine zal true rfl rfl ⟨_, Tryz.func190, rfl, rfl⟩ ?_ | refine zal true rfl rfl ⟨_, Tryz.func191, rfl, rfl⟩ ?_ | refine zal true rfl rfl ⟨_, Tryz.func106, rfl, rfl⟩ ?_); (conv => { arg 6; simp (disch := omega) [h0, h1, hm, hne] }); (first | refine zaf (c3) rfl ?_ | refine zaf (c4) rfl ?_ | refine zaf (c5) rfl ?_ | refine zaf (c6) rfl ?_ | refine zaf (c7) rfl ?_); (conv => { arg 5; simp (disch := omega) [h0, h1, hm, hne] })))) | (refine zab rfl ?_ ?_; (focus (simp; done))))); with_reducible refine zad ?_; (first | refine ⟨rfl, ?_⟩ | refine ⟨by simp [quietB], by simp [quietU], ?_⟩ | skip)) | (refine WL.cond ?_; (conv => { arg 1; simp (disch := omega) [h0, h1, hm, hne] }); with_reducible (first | refine zaj ?_ | refine zak ?_ | refine zag (by omega) ?_ | refine zah (by omega) ?_))))
      refine ⟨[], ?_⟩
      simp (disch := omega) 
theorem zns {n : Nat} (h0 : n ≠ 0) (h : n < 4294967296) : nw n = [n] := by
  rw [zde h0, Nat.mod_eq_of_lt h, Nat.div_eq_of_lt h, zaw]
theorem zft : nw 1 = [1] := zns (by decide) (by decide)
theorem nw_len_one {n : Nat} (h : (nw n).length = 1) : n ≠ 0 ∧ n < 4294967296 := by
  have h0 : n ≠ 0 := fun e => by subst e; rw [zaw] at h; simp at h
  refine ⟨h0, ?_⟩
  have := zax (zaq n)
  rw [zam, h] at this
  simpa using this
theorem commonOne (n : Nat) (hl : (nw n).length ≤ 1099511627776) : CallOk Tryz.prog 161 [wl (nw n)] [] (.bool (decide (n = 1))) [] := by
  by_cases h : (nw n).length = 1
  · obtain ⟨h0, h1⟩ := nw_len_one h
    rw [zns h0 h1]
    refine CallOk.of_wl Tryz.func161 rfl rfl rfl (Nat.le_of_ble_eq_true rfl) ?_
    (repeat (first | with_reducible (first | refine WL.seq ?_ | refine WL.skip ?_ | refine WL.label ?_ | refine WL.block ?_ | refine WL.scope ?_ | refine WL.nilS ?_ | refine WL.reS ?_ | refine WL.exS ?_ | refine WL.nilB ?_ | refine WL.nilT ?_ | refine WL.exit ?_ | refine WL.ret ?_ | refine WL.exT ?_ | refine WL.exB ?_ | refine WL.exN rfl ?_ | refine WL.reT ?_ | refine WL.reB ?_) | ((first | refine WL.reg rfl ?_ | refine WL.regT zai rfl ?_); (conv => { arg 3; simp [prep, prep1] }); (repeat (first | (refine zae ?_ ?_; (focus (simp; done)); (conv => { arg 4; simp (disch := omega) [ws] }); (first | (first | refine zaa ?_ | (refine zac ?_; (conv => { arg 5; simp }))))) | (refine zab rfl ?_ ?_; (focus (simp; done))))); with_reducible refine zad ?_; (first | refine ⟨rfl, ?_⟩ | refine ⟨by simp [quietB], by simp [quietU], ?_⟩ | skip)) | (refine WL.cond ?_; (conv => { arg 1; simp (disch := omega) [ws] }); with_reducible (first | refine zaj ?_ | refine zak ?_ | refine zag (by omega) ?_ | refine zah (by omega) ?_))))
    refine ⟨[], ?_⟩
    simp (disch := omega) 
    omega
  · have hn : ¬ n = 1 := fun e => by subst e; rw [zft] at h; simp at h
    have hI : ¬ (((nw n).length : Nat) : Int) = 1 := by omega
    generalize nw n = l at *
    refine CallOk.of_wl Tryz.func161 rfl rfl rfl (Nat.le_of_ble_eq_true rfl) ?_
    (repeat (first | with_reducible (first | refine WL.seq ?_ | refine WL.skip ?_ | refine WL.label ?_ | refine WL.block ?_ | refine WL.scope ?_ | refine WL.nilS ?_ | refine WL.reS ?_ | refine WL.exS ?_ | refine WL.nilB ?_ | refine WL.nilT ?_ | refine WL.exit ?_ | refine WL.ret ?_ | refine WL.exT ?_ | refine WL.exB ?_ | refine WL.exN rfl ?_ | refine WL.reT ?_ | refine WL.reB ?_) | ((first | refine WL.reg rfl ?_ | refine WL.regT zai rfl ?_); (conv => { arg 3; simp [prep, prep1] }); (repeat (first | (refine zae ?_ ?_; (focus (simp; done)); (conv => { arg 4; simp (disch := omega) [h, hI] }); (first | (first | refine zaa ?_ | (refine zac ?_; (conv => { arg 5; simp }))))) | (refine zab rfl ?_ ?_; (focus (simp; done))))); with_reducible refine zad ?_; (first | refine ⟨rfl, ?_⟩ | refine ⟨by simp [quietB], by simp [quietU], ?_⟩ | skip)) | (refine WL.cond ?_; (conv => { arg 1; simp (disch := omega) [h, hI] }); with_reducible (first | refine zaj ?_ | refine zak ?_ | refine zag (by omega) ?_ | refine zah (by omega) ?_))))
    refine ⟨[], ?_⟩
    simp (disch := omega) [hn]
theorem commonCancel (a b : List Nat) (ha : wf a) (hb : wf b) (hla : a.length ≤ 274877906944) (hlb : b.length ≤ 274877906944) (h0 : 0 < val b) :
    CallOk Tryz.prog 120 [wl a, wl b] [] (.tup [wl (nw (val a / Nat.gcd (val a) (val b))), wl (nw (val b / Nat.gcd (val a) (val b)))]) [] := by
  have c1 := commonGcd a b ha hb hla hlb
  have hg0 : 0 < Nat.gcd (val a) (val b) := Nat.gcd_pos_of_pos_right _ h0
  have hgl : Nat.gcd (val a) (val b) ≤ val b := Nat.gcd_le_right _ h0
  have hl1 : (nw (Nat.gcd (val a) (val b))).length ≤ b.length := Nat.le_trans (zat hgl) (zao hb)
  generalize Nat.gcd (val a) (val b) = g at *
  have c2 := commonOne g (by omega)
  have hne : ¬ (nw g).length = 0 := fun h => by have := zdi h; omega
  by_cases h1 : g = 1
  · subst h1
    have c3 := zcq a (by omega)
    have c4 := zcq b (by omega)
    rw [zba ha] at c3
    rw [zba hb] at c4
    rw [Nat.div_one, Nat.div_one]
    refine CallOk.of_wl Tryz.func120 rfl rfl rfl (Nat.le_of_ble_eq_true rfl) ?_
    (repeat (first | with_reducible (first | refine WL.seq ?_ | refine WL.skip ?_ | refine WL.label ?_ | refine WL.block ?_ | refine WL.scope ?_ | refine WL.nilS ?_ | refine WL.reS ?_ | refine WL.exS ?_ | refine WL.nilB ?_ | refine WL.nilT ?_ | refine WL.exit ?_ | refine WL.ret ?_ | refine WL.exT ?_ | refine WL.exB ?_ | refine WL.exN rfl ?_ | refine WL.reT ?_ | refine WL.reB ?_) | ((first | refine WL.reg rfl ?_ | refine WL.regT zai rfl ?_); (conv => { arg 3; simp [prep, prep1] }); (repeat (first | (refine zae ?_ ?_; (focus (simp; done)); (conv => { arg 4; simp (disch := omega) [hne] }); (first | (first | refine zaa ?_ | (refine zac ?_; (conv => { arg 5; simp }))) | ((first | refine zal true rfl rfl ⟨_, Tryz.func160, rfl, rfl⟩ ?_ | refine zal true rfl rfl ⟨_, Tryz.func161, rfl, rfl⟩ ?_ | refine zal true rfl rfl ⟨_, Tryz.func126, rfl, rfl⟩ ?_); (conv => { arg 6; simp (disch := omega) [hne] }); (first | refine zaf (c1) rfl ?_ | refine zaf (c2) rfl ?_ | refine zaf (c3) rfl ?_ | refine zaf (c4) rfl ?_); (conv => { arg 5; simp (disch := omega) [hne] })))) | (refine zab rfl ?_ ?_; (focus (simp; done))))); with_reducible refine zad ?_; (first | refine ⟨rfl, ?_⟩ | refine ⟨by simp [quietB], by simp [quietU], ?_⟩ | skip)) | (refine WL.cond ?_; (conv => { arg 1; simp (disch := omega) [hne] }); with_reducible (first | refine zaj ?_ | refine zak ?_ | refine zag (by omega) ?_ | refine zah (by omega) ?_))))
    refine ⟨[], ?_⟩
    simp (disch := omega) 
  · have c3 := zkj a (nw g) ha (zaq _) hla (by omega) (by rw [zam]; exact hg0)
    have c4 := zkj b (nw g) hb (zaq _) hlb (by omega) (by rw [zam]; exact hg0)
    rw [zam] at c3 c4
    refine CallOk.of_wl Tryz.func120 rfl rfl rfl (Nat.le_of_ble_eq_true rfl) ?_
    (repeat (first | with_reducible (first | refine WL.seq ?_ | refine WL.skip ?_ | refine WL.label ?_ | refine WL.block ?_ | refine WL.scope ?_ | refine WL.nilS ?_ | refine WL.reS ?_ | refine WL.exS ?_ | refine WL.nilB ?_ | refine WL.nilT ?_ | refine WL.exit ?_ | refine WL.ret ?_ | refine WL.exT ?_ | refine WL.exB ?_ | refine WL.exN rfl ?_ | refine WL.reT ?_ | refine WL.reB ?_) | ((first | refine WL.reg rfl ?_ | refine WL.regT zai rfl ?_); (conv => { arg 3; simp [prep, prep1] }); (repeat (first | (refine zae ?_ ?_; (focus (simp; done)); (conv => { arg 4; simp (disch := omega) [hne, h1] }); (first | (first | refine zaa ?_ | (refine zac ?_; (conv => { arg 5; simp }))) | ((first | refine zal true rfl rfl ⟨_, Tryz.func160, rfl, rfl⟩ ?_ | refine zal true rfl rfl ⟨_, Tryz.func161, rfl, rfl⟩ ?_ | refine zal true rfl rfl ⟨_, Tryz.func162, rfl, rfl⟩ ?_); (conv => { arg 6; simp (disch := omega) [hne, h1] }); (first | refine zaf (c1) rfl ?_ | refine zaf (c2) rfl ?_ | refine zaf (c3) rfl ?_ | refine zaf (c4) rfl ?_); (conv => { arg 5; simp (disch := omega) [hne, h1] })))) | (refine zab rfl ?_ ?_; (focus (simp; done))))); with_reducible refine zad ?_; (first | refine ⟨rfl, ?_⟩ | refine ⟨by simp [quietB], by simp [quietU], ?_⟩ | skip)) | (refine WL.cond ?_; (conv => { arg 1; simp (disch := omega) [hne, h1] }); with_reducible (first | refine zaj ?_ | refine zak ?_ | refine zag (by omega) ?_ | refine zah (by omega) ?_))))
    refine ⟨[], ?_⟩
    simp (disch := omega) 
end Go.Proofs.YthgldcflcmlgpaaGreatDoorE
end
