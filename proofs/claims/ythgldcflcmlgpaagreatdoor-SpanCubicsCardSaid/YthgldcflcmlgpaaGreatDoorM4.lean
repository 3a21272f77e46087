import Derived.Test.YthgldcflcmlgpaaGreatDoorM0
import Derived.Test.YthgldcflcmlgpaaGreatDoorM1
import Derived.Test.YthgldcflcmlgpaaGreatDoorM2
import Derived.Test.YthgldcflcmlgpaaGreatDoorM3
section
/- Whole numbers. -/
set_option linter.unusedVariables false
set_option linter.unusedSimpArgs false
namespace Go.Proofs.YthgldcflcmlgpaaGreatDoorE
open Go.RowKit
set_option maxRecDepth 100000
attribute [local simp] List.getElem?_cons_zero List.getElem?_cons_succ List.getElem?_nil wrap_i64 stOf st0 effF effC evalV evalL zfd zcr pv_t pv_c pv_g pv_f ofConst binV binI lenV foldV mx2 mn2 unV convV extractV idxV indexV fieldAddrV fieldV partV sliceV boundsV loadL live storeE appendE srcV litE makeE IntKind.bits copyE boxE allocE flatParts flatCs flatC allParts cellsOf solid leafB fillL frzL buildV fillP placeS eqFl eqCell St.eff St.put wrs callE renP renA renC renI nid newL renB noEff endK endR resA resL resV expP expA expC expN expL expBs expB idx thenQ blockQ wantK if_pos if_neg wrap_u32 zas beqI bneI w32 wl zar Int.natCast_inj
def zs (neg : Bool) (n : Nat) : Int := if neg = true then -(n : Int) else n
def zv (neg : Bool) (l : List Nat) : Int := zs neg (val l)
def wh (neg : Bool) (l : List Nat) : PV := .agg [.bool neg, wl l]
def whZ (z : Int) : PV := wh (decide (z < 0)) (nw z.natAbs)
theorem zgs (neg : Bool) (n : Nat) : (zs neg n).natAbs = n := by unfold zs; split <;> omega
theorem zs_neg (neg : Bool) (n : Nat) : decide (zs neg n < 0) = (neg && decide (0 < n)) := by
  cases neg <;> simp [zs]
theorem nw_pos_len {n : Nat} : 0 < (nw n).length ↔ 0 < n := by
  constructor
  · intro h; rcases Nat.eq_zero_or_pos n with rfl | h'
    · rw [zaw] at h; simp at h
    · exact h'
  · intro h; rw [zde (by omega)]; simp
theorem zbt (neg : Bool) (n : Nat) (hl : (nw n).length ≤ 1099511627776) : CallOk Tryz.prog 122 [.bool neg, wl (nw n)] [] (whZ (zs neg n)) [] := by
  unfold whZ wh
  rw [zgs, zs_neg]
  have hb : decide (0 < (nw n).length) = decide (0 < n) := by
    have := @nw_pos_len n
    by_cases h : 0 < n
    · rw [decide_eq_true h, decide_eq_true (this.2 h)]
    · rw [decide_eq_false h, decide_eq_false (fun h' => h (this.1 h'))]
  cases neg
  · refine CallOk.of_wl Tryz.func122 rfl rfl rfl (Nat.le_of_ble_eq_true rfl) ?_
    (repeat (first | with_reducible (first | refine WL.seq ?_ | refine WL.skip ?_ | refine WL.label ?_ | refine WL.block ?_ | refine WL.scope ?_ | refine WL.nilS ?_ | refine WL.reS ?_ | refine WL.exS ?_ | refine WL.nilB ?_ | refine WL.nilT ?_ | refine WL.exit ?_ | refine WL.ret ?_ | refine WL.exT ?_ | refine WL.exB ?_ | refine WL.exN rfl ?_ | refine WL.reT ?_ | refine WL.reB ?_) | ((first | refine WL.reg rfl ?_ | refine WL.regT zai rfl ?_); (conv => { arg 3; simp [prep, prep1] }); (repeat (first | (refine zae ?_ ?_; (focus (simp; done)); (conv => { arg 4; simp (disch := omega)  }); (first | (first | refine zaa ?_ | (refine zac ?_; (conv => { arg 5; simp }))))) | (refine zab rfl ?_ ?_; (focus (simp; done))))); with_reducible refine zad ?_; (first | refine ⟨rfl, ?_⟩ | refine ⟨by simp [quietB], by simp [quietU], ?_⟩ | skip)) | (refine WL.cond ?_; (conv => { arg 1; simp (disch := omega)  }); with_reducible (first | refine zaj ?_ | refine zak ?_ | refine zag (by omega) ?_ | refine zah (by omega) ?_))))
    refine ⟨[], ?_⟩
    simp (disch := omega) 
  · rw [← hb]
    generalize nw n = l at *
    refine CallOk.of_wl Tryz.func122 rfl rfl rfl (Nat.le_of_ble_eq_true rfl) ?_
    (repeat (first | with_reducible (first | refine WL.seq ?_ | refine WL.skip ?_ | refine WL.label ?_ | refine WL.block ?_ | refine WL.scope ?_ | refine WL.nilS ?_ | refine WL.reS ?_ | refine WL.exS ?_ | refine WL.nilB ?_ | refine WL.nilT ?_ | refine WL.exit ?_ | refine WL.ret ?_ | refine WL.exT ?_ | refine WL.exB ?_ | refine WL.exN rfl ?_ | refine WL.reT ?_ | refine WL.reB ?_) | ((first | refine WL.reg rfl ?_ | refine WL.regT zai rfl ?_); (conv => { arg 3; simp [prep, prep1] }); (repeat (first | (refine zae ?_ ?_; (focus (simp; done)); (conv => { arg 4; simp (disch := omega)  }); (first | (first | refine zaa ?_ | (refine zac ?_; (conv => { arg 5; simp }))))) | (refine zab rfl ?_ ?_; (focus (simp; done))))); with_reducible refine zad ?_; (first | refine ⟨rfl, ?_⟩ | refine ⟨by simp [quietB], by simp [quietU], ?_⟩ | skip)) | (refine WL.cond ?_; (conv => { arg 1; simp (disch := omega)  }); with_reducible (first | refine zaj ?_ | refine zak ?_ | refine zag (by omega) ?_ | refine zah (by omega) ?_))))
    refine ⟨[], ?_⟩
    simp (disch := omega) 
theorem wholeNorm (neg : Bool) (l : List Nat) (hw : wf l) (hl : l.length ≤ 1099511627776) : CallOk Tryz.prog 121 [wh neg l] [] (whZ (zv neg l)) [] := by
  have c1 := zcq l hl
  rw [zba hw] at c1
  have c2 := zbt neg (val l) (Nat.le_trans (zao hw) hl)
  unfold zv
  refine CallOk.of_wl Tryz.func121 rfl rfl rfl (Nat.le_of_ble_eq_true rfl) ?_
  (repeat (first | with_reducible (first | refine WL.seq ?_ | refine WL.skip ?_ | refine WL.label ?_ | refine WL.block ?_ | refine WL.scope ?_ | refine WL.nilS ?_ | refine WL.reS ?_ | refine WL.exS ?_ | refine WL.nilB ?_ | refine WL.nilT ?_ | refine WL.exit ?_ | refine WL.ret ?_ | refine WL.exT ?_ | refine WL.exB ?_ | refine WL.exN rfl ?_ | refine WL.reT ?_ | refine WL.reB ?_) | ((first | refine WL.reg rfl ?_ | refine WL.regT zai rfl ?_); (conv => { arg 3; simp [prep, prep1] }); (repeat (first | (refine zae ?_ ?_; (focus (simp; done)); (conv => { arg 4; simp (disch := omega) [wh] }); (first | (first | refine zaa ?_ | (refine zac ?_; (conv => { arg 5; simp }))) | ((first | refine zal true rfl rfl ⟨_, Tryz.func126, rfl, rfl⟩ ?_ | refine zal true rfl rfl ⟨_, Tryz.func122, rfl, rfl⟩ ?_); (conv => { arg 6; simp (disch := omega) [wh] }); (first | refine zaf (c1) rfl ?_ | refine zaf (c2) rfl ?_); (conv => { arg 5; simp (disch := omega) [wh] })))) | (refine zab rfl ?_ ?_; (focus (simp; done))))); with_reducible refine zad ?_; (first | refine ⟨rfl, ?_⟩ | refine ⟨by simp [quietB], by simp [quietU], ?_⟩ | skip)) | (refine WL.cond ?_; (conv => { arg 1; simp (disch := omega) [wh] }); with_reducible (first | refine zaj ?_ | refine zak ?_ | refine zag (by omega) ?_ | refine zah (by omega) ?_))))
  refine ⟨[], ?_⟩
  simp (disch := omega) [whZ, wh]
theorem zmz (neg : Bool) (l : List Nat) (hw : wf l) (hl : l.length ≤ 1099511627776) : CallOk Tryz.prog 108 [wh neg l] [] (whZ (- zv neg l)) [] := by
  have c1 := zcq l hl
  rw [zba hw] at c1
  have c2 := zbt (!neg) (val l) (Nat.le_trans (zao hw) hl)
  have e : - zv neg l = zs (!neg) (val l) := by cases neg <;> simp [zv, zs]
  rw [e]
  refine CallOk.of_wl Tryz.func108 rfl rfl rfl (Nat.le_of_ble_eq_true rfl) ?_
  (repeat (first | with_reducible (first | refine WL.seq ?_ | refine WL.skip ?_ | refine WL.label ?_ | refine WL.block ?_ | refine WL.scope ?_ | refine WL.nilS ?_ | refine WL.reS ?_ | refine WL.exS ?_ | refine WL.nilB ?_ | refine WL.nilT ?_ | refine WL.exit ?_ | refine WL.ret ?_ | refine WL.exT ?_ | refine WL.exB ?_ | refine WL.exN rfl ?_ | refine WL.reT ?_ | refine WL.reB ?_) | ((first | refine WL.reg rfl ?_ | refine WL.regT zai rfl ?_); (conv => { arg 3; simp [prep, prep1] }); (repeat (first | (refine zae ?_ ?_; (focus (simp; done)); (conv => { arg 4; simp (disch := omega) [wh] }); (first | (first | refine zaa ?_ | (refine zac ?_; (conv => { arg 5; simp }))) | ((first | refine zal true rfl rfl ⟨_, Tryz.func126, rfl, rfl⟩ ?_ | refine zal true rfl rfl ⟨_, Tryz.func122, rfl, rfl⟩ ?_); (conv => { arg 6; simp (disch := omega) [wh] }); (first | refine zaf (c1) rfl ?_ | refine zaf (c2) rfl ?_); (conv => { arg 5; simp (disch := omega) [wh] })))) | (refine zab rfl ?_ ?_; (focus (simp; done))))); with_reducible refine zad ?_; (first | refine ⟨rfl, ?_⟩ | refine ⟨by simp [quietB], by simp [quietU], ?_⟩ | skip)) | (refine WL.cond ?_; (conv => { arg 1; simp (disch := omega) [wh] }); with_reducible (first | refine zaj ?_ | refine zak ?_ | refine zag (by omega) ?_ | refine zah (by omega) ?_))))
  refine ⟨[], ?_⟩
  simp (disch := omega) [whZ, wh]
theorem natAdd2 (a b : List Nat) (ha : wf a) (hb : wf b) (hla : a.length ≤ 274877906944) (hlb : b.length ≤ 274877906944) : CallOk Tryz.prog 123 [.rd [wl a, wl b] 2] [] (wl (nw (val a + val b))) [] := by
  have hk : sumV [a, b] < 4294967296 ^ (max a.length b.length + 1) := by
    have h1 : val a < 4294967296 ^ max a.length b.length := Nat.lt_of_lt_of_le (zax ha) (Nat.pow_le_pow_right (by decide) (Nat.le_max_left _ _))
    have h2 : val b < 4294967296 ^ max a.length b.length := Nat.lt_of_lt_of_le (zax hb) (Nat.pow_le_pow_right (by decide) (Nat.le_max_right _ _))
    rw [Nat.pow_succ]
    generalize 4294967296 ^ max a.length b.length = P at *
    simp [sumV]; omega
  have := natAdd [a, b] (by intro l hl; simp at hl; rcases hl with rfl | rfl <;> assumption) (by intro l hl; simp at hl; rcases hl with rfl | rfl <;> omega) (max a.length b.length + 1) (by omega) hk (by simp)
  simpa [sumV] using this
theorem znb (na nb : Bool) (a b : List Nat) (ha : wf a) (hb : wf b) (hla : a.length ≤ 274877906944) (hlb : b.length ≤ 274877906944) : CallOk Tryz.prog 82 [wh na a, wh nb b] [] (whZ (zv na a + zv nb b)) [] := by
  have c1 := natAdd2 a b ha hb hla hlb
  have c2 := natGap a b ha hb (by omega) (by omega)
  have l1 : (nw (val a + val b)).length ≤ 1099511627776 := by
    have h1 : val a < 4294967296 ^ max a.length b.length := Nat.lt_of_lt_of_le (zax ha) (Nat.pow_le_pow_right (by decide) (Nat.le_max_left _ _))
    have h2 : val b < 4294967296 ^ max a.length b.length := Nat.lt_of_lt_of_le (zax hb) (Nat.pow_le_pow_right (by decide) (Nat.le_max_right _ _))
    have : (nw (val a + val b)).length ≤ max a.length b.length + 1 := zbz (by
      rw [Nat.pow_succ]
      generalize 4294967296 ^ max a.length b.length = P at *
      omega)
    omega
  have l2 : (nw (val a - val b + (val b - val a))).length ≤ (nw (val a + val b)).length := zat (by omega)
  have c3 := zbt na (val a + val b) l1
  have c4 := zbt na (val a - val b + (val b - val a)) (by omega)
  have c5 := zbt nb (val a - val b + (val b - val a)) (by omega)
  by_cases hn : na = nb
  · have e : zv na a + zv nb b = zs na (val a + val b) := by subst hn; unfold zv zs; cases na <;> simp <;> omega
    rw [e]
    subst hn
    generalize val a + val b = sm at *
    refine CallOk.of_wl Tryz.func82 rfl rfl rfl (Nat.le_of_ble_eq_true rfl) ?_
    (repeat (first | with_reducible (first | refine WL.seq ?_ | refine WL.skip ?_ | refine WL.label ?_ | refine WL.block ?_ | refine WL.scope ?_ | refine WL.nilS ?_ | refine WL.reS ?_ | refine WL.exS ?_ | refine WL.nilB ?_ | refine WL.nilT ?_ | refine WL.exit ?_ | refine WL.ret ?_ | refine WL.exT ?_ | refine WL.exB ?_ | refine WL.exN rfl ?_ | refine WL.reT ?_ | refine WL.reB ?_) | ((first | refine WL.reg rfl ?_ | refine WL.regT zai rfl ?_); (conv => { arg 3; simp [prep, prep1] }); (repeat (first | (refine zae ?_ ?_; (focus (simp; done)); (conv => { arg 4; simp (disch := omega) [wh] }); (first | (first | refine zaa ?_ | (refine zac ?_; (conv => { arg 5; simp }))) | ((first | refine zal true rfl rfl ⟨_, Tryz.func123, rfl, rfl⟩ ?_ | refine zal true rfl rfl ⟨_, Tryz.func122, rfl, rfl⟩ ?_); (conv => { arg 6; simp (disch := omega) [wh] }); (first | refine zaf (c1) rfl ?_ | refine zaf (c3) rfl ?_); (conv => { arg 5; simp (disch := omega) [wh] })))) | (refine zab rfl ?_ ?_; (focus (simp; done))))); with_reducible refine zad ?_; (first | refine ⟨rfl, ?_⟩ | refine ⟨by simp [quietB], by simp [quietU], ?_⟩ | skip)) | (refine WL.cond ?_; (conv => { arg 1; simp (disch := omega) [wh] }); with_reducible (first | refine zaj ?_ | refine zak ?_ | refine zag (by omega) ?_ | refine zah (by omega) ?_))))
    refine ⟨[], ?_⟩
    simp (disch := omega) [whZ, wh]
  · have hn' : (na == nb) = false := by simpa using hn
    by_cases hlt : val a < val b
    · have hc : cmpI (val a) (val b) = -1 := by simp [cmpI, hlt]
      have e : zv na a + zv nb b = zs nb (val a - val b + (val b - val a)) := by
        cases na <;> cases nb <;> simp at hn <;> simp only [zv, zs] <;> simp <;> omega
      rw [hc] at c2
      rw [e]
      generalize val a - val b + (val b - val a) = gp at *
      refine CallOk.of_wl Tryz.func82 rfl rfl rfl (Nat.le_of_ble_eq_true rfl) ?_
      (repeat (first | with_reducible (first | refine WL.seq ?_ | refine WL.skip ?_ | refine WL.label ?_ | refine WL.block ?_ | refine WL.scope ?_ | refine WL.nilS ?_ | refine WL.reS ?_ | refine WL.exS ?_ | refine WL.nilB ?_ | refine WL.nilT ?_ | refine WL.exit ?_ | refine WL.ret ?_ | refine WL.exT ?_ | refine WL.exB ?_ | refine WL.exN rfl ?_ | refine WL.reT ?_ | refine WL.reB ?_) | ((first | refine WL.reg rfl ?_ | refine WL.regT zai rfl ?_); (conv => { arg 3; simp [prep, prep1] }); (repeat (first | (refine zae ?_ ?_; (focus (simp; done)); (conv => { arg 4; simp (disch := omega) [wh, hn'] }); (first | (first | refine zaa ?_ | (refine zac ?_; (conv => { arg 5; simp }))) | ((first | refine zal true rfl rfl ⟨_, Tryz.func124, rfl, rfl⟩ ?_ | refine zal true rfl rfl ⟨_, Tryz.func122, rfl, rfl⟩ ?_); (conv => { arg 6; simp (disch := omega) [wh, hn'] }); (first | refine zaf (c2) rfl ?_ | refine zaf (c5) rfl ?_); (conv => { arg 5; simp (disch := omega) [wh, hn'] })))) | (refine zab rfl ?_ ?_; (focus (simp; done))))); with_reducible refine zad ?_; (first | refine ⟨rfl, ?_⟩ | refine ⟨by simp [quietB], by simp [quietU], ?_⟩ | skip)) | (refine WL.cond ?_; (conv => { arg 1; simp (disch := omega) [wh, hn'] }); with_reducible (first | refine zaj ?_ | refine zak ?_ | refine zag (by omega) ?_ | refine zah (by omega) ?_))))
      refine ⟨[], ?_⟩
      simp (disch := omega) [whZ, wh]
    · have hc : ¬ cmpI (val a) (val b) < 0 := by unfold cmpI; rw [if_neg hlt]; split <;> simp
      have e : zv na a + zv nb b = zs na (val a - val b + (val b - val a)) := by
        cases na <;> cases nb <;> simp at hn <;> simp only [zv, zs] <;> simp <;> omega
      rw [e]
      generalize val a - val b + (val b - val a) = gp at *
      refine CallOk.of_wl Tryz.func82 rfl rfl rfl (Nat.le_of_ble_eq_true rfl) ?_
      (repeat (first | with_reducible (first | refine WL.seq ?_ | refine WL.skip ?_ | refine WL.label ?_ | refine WL.block ?_ | refine WL.scope ?_ | refine WL.nilS ?_ | refine WL.reS ?_ | refine WL.exS ?_ | refine WL.nilB ?_ | refine WL.nilT ?_ | refine WL.exit ?_ | refine WL.ret ?_ | refine WL.exT ?_ | refine WL.exB ?_ | refine WL.exN rfl ?_ | refine WL.reT ?_ | refine WL.reB ?_) | ((first | refine WL.reg rfl ?_ | refine WL.regT zai rfl ?_); (conv => { arg 3; simp [prep, prep1] }); (repeat (first | (refine zae ?_ ?_; (focus (simp; done)); (conv => { arg 4; simp (disch := omega) [wh, hn', hc] }); (first | (first | refine zaa ?_ | (refine zac ?_; (conv => { arg 5; simp }))) | ((first | refine zal true rfl rfl ⟨_, Tryz.func124, rfl, rfl⟩ ?_ | refine zal true rfl rfl ⟨_, Tryz.func122, rfl, rfl⟩ ?_); (conv => { arg 6; simp (disch := omega) [wh, hn', hc] }); (first | refine zaf (c2) rfl ?_ | refine zaf (c4) rfl ?_); (conv => { arg 5; simp (disch := omega) [wh, hn', hc] })))) | (refine zab rfl ?_ ?_; (focus (simp; done))))); with_reducible refine zad ?_; (first | refine ⟨rfl, ?_⟩ | refine ⟨by simp [quietB], by simp [quietU], ?_⟩ | skip)) | (refine WL.cond ?_; (conv => { arg 1; simp (disch := omega) [wh, hn', hc] }); with_reducible (first | refine zaj ?_ | refine zak ?_ | refine zag (by omega) ?_ | refine zah (by omega) ?_))))
      refine ⟨[], ?_⟩
      simp (disch := omega) [whZ, wh]
theorem zin (z : Int) : zv (decide (z < 0)) (nw z.natAbs) = z := by
  unfold zv zs; rw [zam]
  by_cases h : z < 0
  · simp [h]; omega
  · simp [h]; omega
theorem zkz (neg : Bool) (l : List Nat) : (zv neg l).natAbs = val l := zgs _ _
theorem nw_abs_len {neg : Bool} {l : List Nat} (h : wf l) : (nw (zv neg l).natAbs).length ≤ l.length := by rw [zkz]; exact zao h
theorem wholeSub (na nb : Bool) (a b : List Nat) (ha : wf a) (hb : wf b) (hla : a.length ≤ 274877906944) (hlb : b.length ≤ 274877906944) : CallOk Tryz.prog 151 [wh na a, wh nb b] [] (whZ (zv na a - zv nb b)) [] := by
  have c1 := zmz nb b hb (by omega)
  have c2 := znb na (decide (-zv nb b < 0)) a (nw (-zv nb b).natAbs) ha (zaq _) hla (by
    rw [Int.natAbs_neg]; exact Nat.le_trans (nw_abs_len hb) hlb)
  rw [zin, ← Int.sub_eq_add_neg] at c2
  unfold whZ at c1
  generalize -zv nb b = z at *
  generalize zv na a - zv nb b = w at *
  refine CallOk.of_wl Tryz.func151 rfl rfl rfl (Nat.le_of_ble_eq_true rfl) ?_
  (repeat (first | with_reducible (first | refine WL.seq ?_ | refine WL.skip ?_ | refine WL.label ?_ | refine WL.block ?_ | refine WL.scope ?_ | refine WL.nilS ?_ | refine WL.reS ?_ | refine WL.exS ?_ | refine WL.nilB ?_ | refine WL.nilT ?_ | refine WL.exit ?_ | refine WL.ret ?_ | refine WL.exT ?_ | refine WL.exB ?_ | refine WL.exN rfl ?_ | refine WL.reT ?_ | refine WL.reB ?_) | ((first | refine WL.reg rfl ?_ | refine WL.regT zai rfl ?_); (conv => { arg 3; simp [prep, prep1] }); (repeat (first | (refine zae ?_ ?_; (focus (simp; done)); (conv => { arg 4; simp (disch := omega) [wh] }); (first | (first | refine zaa ?_ | (refine zac ?_; (conv => { arg 5; simp }))) | ((first | refine zal true rfl rfl ⟨_, Tryz.func108, rfl, rfl⟩ ?_ | refine zal true rfl rfl ⟨_, Tryz.func82, rfl, rfl⟩ ?_); (conv => { arg 6; simp (disch := omega) [wh] }); (first | refine zaf (c1) rfl ?_ | refine zaf (c2) rfl ?_); (conv => { arg 5; simp (disch := omega) [wh] })))) | (refine zab rfl ?_ ?_; (focus (simp; done))))); with_reducible refine zad ?_; (first | refine ⟨rfl, ?_⟩ | refine ⟨by simp [quietB], by simp [quietU], ?_⟩ | skip)) | (refine WL.cond ?_; (conv => { arg 1; simp (disch := omega) [wh] }); with_reducible (first | refine zaj ?_ | refine zak ?_ | refine zag (by omega) ?_ | refine zah (by omega) ?_))))
  refine ⟨[], ?_⟩
  simp (disch := omega) [whZ, wh]
theorem zna (na nb : Bool) (a b : List Nat) (ha : wf a) (hb : wf b) (hl : a.length + b.length ≤ 274877906944) : CallOk Tryz.prog 98 [wh na a, wh nb b] [] (whZ (zv na a * zv nb b)) [] := by
  have c1 := zhy a b ha hb (by omega)
  have hle : (nw (val a * val b)).length ≤ a.length + b.length := zbz (by
    rw [Nat.pow_add]
    exact Nat.mul_lt_mul'' (zax ha) (zax hb))
  have c2 := zbt (na != nb) (val a * val b) (by omega)
  have e : zv na a * zv nb b = zs (na != nb) (val a * val b) := by cases na <;> cases nb <;> simp [zv, zs, Int.neg_mul, Int.mul_neg]
  rw [e]
  generalize val a * val b = p at *
  refine CallOk.of_wl Tryz.func98 rfl rfl rfl (Nat.le_of_ble_eq_true rfl) ?_
  (repeat (first | with_reducible (first | refine WL.seq ?_ | refine WL.skip ?_ | refine WL.label ?_ | refine WL.block ?_ | refine WL.scope ?_ | refine WL.nilS ?_ | refine WL.reS ?_ | refine WL.exS ?_ | refine WL.nilB ?_ | refine WL.nilT ?_ | refine WL.exit ?_ | refine WL.ret ?_ | refine WL.exT ?_ | refine WL.exB ?_ | refine WL.exN rfl ?_ | refine WL.reT ?_ | refine WL.reB ?_) | ((first | refine WL.reg rfl ?_ | refine WL.regT zai rfl ?_); (conv => { arg 3; simp [prep, prep1] }); (repeat (first | (refine zae ?_ ?_; (focus (simp; done)); (conv => { arg 4; simp (disch := omega) [wh] }); (first | (first | refine zaa ?_ | (refine zac ?_; (conv => { arg 5; simp }))) | ((first | refine zal true rfl rfl ⟨_, Tryz.func84, rfl, rfl⟩ ?_ | refine zal true rfl rfl ⟨_, Tryz.func122, rfl, rfl⟩ ?_); (conv => { arg 6; simp (disch := omega) [wh] }); (first | refine zaf (c1) rfl ?_ | refine zaf (c2) rfl ?_); (conv => { arg 5; simp (disch := omega) [wh] })))) | (refine zab rfl ?_ ?_; (focus (simp; done))))); with_reducible refine zad ?_; (first | refine ⟨rfl, ?_⟩ | refine ⟨by simp [quietB], by simp [quietU], ?_⟩ | skip)) | (refine WL.cond ?_; (conv => { arg 1; simp (disch := omega) [wh] }); with_reducible (first | refine zaj ?_ | refine zak ?_ | refine zag (by omega) ?_ | refine zah (by omega) ?_))))
  refine ⟨[], ?_⟩
  simp (disch := omega) [whZ, wh]
def sgn (z : Int) : Int := if z = 0 then 0 else if z < 0 then -1 else 1
theorem zlf {l : List Nat} (h : wf l) : (decide (trimL l = []) = decide (val l = 0)) := by
  rw [zba h]
  by_cases h0 : val l = 0
  · rw [h0, zaw]; rfl
  · rw [zde h0]; simp [h0]
theorem zhm (neg : Bool) (l : List Nat) (hw : wf l) (hl : l.length ≤ 1099511627776) : CallOk Tryz.prog 80 [wh neg l] [] (.int .i64 (sgn (zv neg l))) [] := by
  have c1 := zmq l hl
  rw [zlf hw] at c1
  by_cases h0 : val l = 0
  · have e : sgn (zv neg l) = 0 := by unfold zv zs; rw [h0]; cases neg <;> simp [sgn]
    rw [e]
    refine CallOk.of_wl Tryz.func80 rfl rfl rfl (Nat.le_of_ble_eq_true rfl) ?_
    (repeat (first | with_reducible (first | refine WL.seq ?_ | refine WL.skip ?_ | refine WL.label ?_ | refine WL.block ?_ | refine WL.scope ?_ | refine WL.nilS ?_ | refine WL.reS ?_ | refine WL.exS ?_ | refine WL.nilB ?_ | refine WL.nilT ?_ | refine WL.exit ?_ | refine WL.ret ?_ | refine WL.exT ?_ | refine WL.exB ?_ | refine WL.exN rfl ?_ | refine WL.reT ?_ | refine WL.reB ?_) | ((first | refine WL.reg rfl ?_ | refine WL.regT zai rfl ?_); (conv => { arg 3; simp [prep, prep1] }); (repeat (first | (refine zae ?_ ?_; (focus (simp; done)); (conv => { arg 4; simp (disch := omega) [wh, h0] }); (first | (first | refine zaa ?_ | (refine zac ?_; (conv => { arg 5; simp }))) | (refine zal true rfl rfl ⟨_, Tryz.func119, rfl, rfl⟩ ?_; (conv => { arg 6; simp (disch := omega) [wh, h0] }); refine zaf (c1) rfl ?_; (conv => { arg 5; simp (disch := omega) [wh, h0] })))) | (refine zab rfl ?_ ?_; (focus (simp; done))))); with_reducible refine zad ?_; (first | refine ⟨rfl, ?_⟩ | refine ⟨by simp [quietB], by simp [quietU], ?_⟩ | skip)) | (refine WL.cond ?_; (conv => { arg 1; simp (disch := omega) [wh, h0] }); with_reducible (first | refine zaj ?_ | refine zak ?_ | refine zag (by omega) ?_ | refine zah (by omega) ?_))))
    refine ⟨[], ?_⟩
    simp (disch := omega) 
  · have e : sgn (zv neg l) = if neg = true then -1 else 1 := by
      unfold sgn zv zs; cases neg <;> simp <;> omega
    rw [e]
    cases neg
    all_goals
      refine CallOk.of_wl Tryz.func80 rfl rfl rfl (Nat.le_of_ble_eq_true rfl) ?_
      (repeat (first | with_reducible (first | refine WL.seq ?_ | refine WL.skip ?_ | refine WL.label ?_ | refine WL.block ?_ | refine WL.scope ?_ | refine WL.nilS ?_ | refine WL.reS ?_ | refine WL.exS ?_ | refine WL.nilB ?_ | refine WL.nilT ?_ | refine WL.exit ?_ | refine WL.ret ?_ | refine WL.exT ?_ | refine WL.exB ?_ | refine WL.exN rfl ?_ | refine WL.reT ?_ | refine WL.reB ?_) | ((first | refine WL.reg rfl ?_ | refine WL.regT zai rfl ?_); (conv => { arg 3; simp [prep, prep1] }); (repeat (first | (refine zae ?_ ?_; (focus (simp; done)); (conv => { arg 4; simp (disch := omega) [wh, h0] }); (first | (first | refine zaa ?_ | (refine zac ?_; (conv => { arg 5; simp }))) | (refine zal true rfl rfl ⟨_, Tryz.func119, rfl, rfl⟩ ?_; (conv => { arg 6; simp (disch := omega) [wh, h0] }); refine zaf (c1) rfl ?_; (conv => { arg 5; simp (disch := omega) [wh, h0] })))) | (refine zab rfl ?_ ?_; (focus (simp; done))))); with_reducible refine zad ?_; (first | refine ⟨rfl, ?_⟩ | refine ⟨by simp [quietB], by simp [quietU], ?_⟩ | skip)) | (refine WL.cond ?_; (conv => { arg 1; simp (disch := omega) [wh, h0] }); with_reducible (first | refine zaj ?_ | refine zak ?_ | refine zag (by omega) ?_ | refine zah (by omega) ?_))))
      refine ⟨[], ?_⟩
      simp (disch := omega) 
theorem wholeOf (n : Int) (h : -9223372036854775808 ≤ n ∧ n ≤ 9223372036854775807) : CallOk Tryz.prog 105 [.int .i64 n] [] (whZ n) [] := by
  have hl : (nw n.natAbs).length ≤ 2 := zbz (by
    have : n.natAbs ≤ 9223372036854775808 := by omega
    exact Nat.lt_of_le_of_lt this (by decide))
  have c1 := zoo n.natAbs (by omega)
  by_cases hn : n < 0
  · have c2 := zbt true n.natAbs (by omega)
    have e : zs true n.natAbs = n := by simp [zs]; omega
    have e2 : -(n % 18446744073709551616) % 18446744073709551616 = (n.natAbs : Int) := by omega
    rw [e] at c2
    generalize n.natAbs = k at *
    refine CallOk.of_wl Tryz.func105 rfl rfl rfl (Nat.le_of_ble_eq_true rfl) ?_
    (repeat (first | with_reducible (first | refine WL.seq ?_ | refine WL.skip ?_ | refine WL.label ?_ | refine WL.block ?_ | refine WL.scope ?_ | refine WL.nilS ?_ | refine WL.reS ?_ | refine WL.exS ?_ | refine WL.nilB ?_ | refine WL.nilT ?_ | refine WL.exit ?_ | refine WL.ret ?_ | refine WL.exT ?_ | refine WL.exB ?_ | refine WL.exN rfl ?_ | refine WL.reT ?_ | refine WL.reB ?_) | ((first | refine WL.reg rfl ?_ | refine WL.regT zai rfl ?_); (conv => { arg 3; simp [prep, prep1] }); (repeat (first | (refine zae ?_ ?_; (focus (simp; done)); (conv => { arg 4; simp (disch := omega) [hn, zfj, e2] }); (first | (first | refine zaa ?_ | (refine zac ?_; (conv => { arg 5; simp }))) | ((first | refine zal true rfl rfl ⟨_, Tryz.func106, rfl, rfl⟩ ?_ | refine zal true rfl rfl ⟨_, Tryz.func122, rfl, rfl⟩ ?_); (conv => { arg 6; simp (disch := omega) [hn, zfj, e2] }); (first | refine zaf (c1) rfl ?_ | refine zaf (c2) rfl ?_); (conv => { arg 5; simp (disch := omega) [hn, zfj, e2] })))) | (refine zab rfl ?_ ?_; (focus (simp; done))))); with_reducible refine zad ?_; (first | refine ⟨rfl, ?_⟩ | refine ⟨by simp [quietB], by simp [quietU], ?_⟩ | skip)) | (refine WL.cond ?_; (conv => { arg 1; simp (disch := omega) [hn, zfj, e2] }); with_reducible (first | refine zaj ?_ | refine zak ?_ | refine zag (by omega) ?_ | refine zah (by omega) ?_))))
    refine ⟨[], ?_⟩
    simp (disch := omega) [whZ, wh]
  · obtain ⟨k, rfl⟩ := Int.eq_ofNat_of_zero_le (show 0 ≤ n by omega)
    have c2 := zbt false k (by rw [Int.natAbs_natCast] at hl; omega)
    have e : zs false k = (k : Int) := by simp [zs]
    rw [e] at c2
    rw [Int.natAbs_natCast] at c1
    refine CallOk.of_wl Tryz.func105 rfl rfl rfl (Nat.le_of_ble_eq_true rfl) ?_
    (repeat (first | with_reducible (first | refine WL.seq ?_ | refine WL.skip ?_ | refine WL.label ?_ | refine WL.block ?_ | refine WL.scope ?_ | refine WL.nilS ?_ | refine WL.reS ?_ | refine WL.exS ?_ | refine WL.nilB ?_ | refine WL.nilT ?_ | refine WL.exit ?_ | refine WL.ret ?_ | refine WL.exT ?_ | refine WL.exB ?_ | refine WL.exN rfl ?_ | refine WL.reT ?_ | refine WL.reB ?_) | ((first | refine WL.reg rfl ?_ | refine WL.regT zai rfl ?_); (conv => { arg 3; simp [prep, prep1] }); (repeat (first | (refine zae ?_ ?_; (focus (simp; done)); (conv => { arg 4; simp (disch := omega)  }); (first | (first | refine zaa ?_ | (refine zac ?_; (conv => { arg 5; simp }))) | ((first | refine zal true rfl rfl ⟨_, Tryz.func106, rfl, rfl⟩ ?_ | refine zal true rfl rfl ⟨_, Tryz.func122, rfl, rfl⟩ ?_); (conv => { arg 6; simp (disch := omega)  }); (first | refine zaf (c1) rfl ?_ | refine zaf (c2) rfl ?_); (conv => { arg 5; simp (disch := omega)  })))) | (refine zab rfl ?_ ?_; (focus (simp; done))))); with_reducible refine zad ?_; (first | refine ⟨rfl, ?_⟩ | refine ⟨by simp [quietB], by simp [quietU], ?_⟩ | skip)) | (refine WL.cond ?_; (conv => { arg 1; simp (disch := omega)  }); with_reducible (first | refine zaj ?_ | refine zak ?_ | refine zag (by omega) ?_ | refine zah (by omega) ?_))))
    refine ⟨[], ?_⟩
    simp (disch := omega) [whZ, wh]
def fr (neg : Bool) (n d : List Nat) : PV := .agg [.bool neg, wl n, wl d]
def qv (neg : Bool) (n d : List Nat) : Rat := mkRat (zv neg n) (val d)
def frQ (q : Rat) : PV := fr (decide (q.num < 0)) (nw q.num.natAbs) (nw q.den)
def szQ (q : Rat) : Nat := max (nw q.num.natAbs).length (nw q.den).length
theorem qv_frQ (q : Rat) : qv (decide (q.num < 0)) (nw q.num.natAbs) (nw q.den) = q := by
  unfold qv; rw [zin, zam]; exact Rat.mkRat_self q
structure Parts (neg : Bool) (n d : List Nat) (s : Bool) (N D : List Nat) : Prop where
  wN : wf N
  wD : wf D
  pos : 0 < val D
  val : qv neg n d = mkRat (zv s N) (val D)
  lN : N.length ≤ n.length
  lD : D.length ≤ max 1 d.length
theorem zca (neg : Bool) (n d : List Nat) (hn : wf n) (hd : wf d) (hl : d.length ≤ 1099511627776) : ∃ s N D, CallOk Tryz.prog 79 [fr neg n d] [] (.tup [wh s N, wl D]) [] ∧ Parts neg n d s N D := by
  have c1 := zmq d hl
  rw [zlf hd] at c1
  by_cases h0 : val d = 0
  · refine ⟨false, [], nw 1, ?_, zfk, zaq _, by rw [zam]; decide, ?_, by simp, by rw [zft]; simp; omega⟩
    · have c2 := zoo 1 (by decide)
      refine CallOk.of_wl Tryz.func79 rfl rfl rfl (Nat.le_of_ble_eq_true rfl) ?_
      (repeat (first | with_reducible (first | refine WL.seq ?_ | refine WL.skip ?_ | refine WL.label ?_ | refine WL.block ?_ | refine WL.scope ?_ | refine WL.nilS ?_ | refine WL.reS ?_ | refine WL.exS ?_ | refine WL.nilB ?_ | refine WL.nilT ?_ | refine WL.exit ?_ | refine WL.ret ?_ | refine WL.exT ?_ | refine WL.exB ?_ | refine WL.exN rfl ?_ | refine WL.reT ?_ | refine WL.reB ?_) | ((first | refine WL.reg rfl ?_ | refine WL.regT zai rfl ?_); (conv => { arg 3; simp [prep, prep1] }); (repeat (first | (refine zae ?_ ?_; (focus (simp; done)); (conv => { arg 4; simp (disch := omega) [fr, h0] }); (first | (first | refine zaa ?_ | (refine zac ?_; (conv => { arg 5; simp }))) | ((first | refine zal true rfl rfl ⟨_, Tryz.func119, rfl, rfl⟩ ?_ | refine zal true rfl rfl ⟨_, Tryz.func106, rfl, rfl⟩ ?_); (conv => { arg 6; simp (disch := omega) [fr, h0] }); (first | refine zaf (c1) rfl ?_ | refine zaf (c2) rfl ?_); (conv => { arg 5; simp (disch := omega) [fr, h0] })))) | (refine zab rfl ?_ ?_; (focus (simp; done))))); with_reducible refine zad ?_; (first | refine ⟨rfl, ?_⟩ | refine ⟨by simp [quietB], by simp [quietU], ?_⟩ | skip)) | (refine WL.cond ?_; (conv => { arg 1; simp (disch := omega) [fr, h0] }); with_reducible (first | refine zaj ?_ | refine zak ?_ | refine zag (by omega) ?_ | refine zah (by omega) ?_))))
      refine ⟨[], ?_⟩
      simp (disch := omega) [wh, ws]
    · unfold qv; rw [h0, Rat.mkRat_zero]
      simp [zv, zs, val]
  · refine ⟨neg, n, d, ?_, hn, hd, by omega, rfl, by omega, by omega⟩
    refine CallOk.of_wl Tryz.func79 rfl rfl rfl (Nat.le_of_ble_eq_true rfl) ?_
    (repeat (first | with_reducible (first | refine WL.seq ?_ | refine WL.skip ?_ | refine WL.label ?_ | refine WL.block ?_ | refine WL.scope ?_ | refine WL.nilS ?_ | refine WL.reS ?_ | refine WL.exS ?_ | refine WL.nilB ?_ | refine WL.nilT ?_ | refine WL.exit ?_ | refine WL.ret ?_ | refine WL.exT ?_ | refine WL.exB ?_ | refine WL.exN rfl ?_ | refine WL.reT ?_ | refine WL.reB ?_) | ((first | refine WL.reg rfl ?_ | refine WL.regT zai rfl ?_); (conv => { arg 3; simp [prep, prep1] }); (repeat (first | (refine zae ?_ ?_; (focus (simp; done)); (conv => { arg 4; simp (disch := omega) [fr, h0] }); (first | (first | refine zaa ?_ | (refine zac ?_; (conv => { arg 5; simp }))) | (refine zal true rfl rfl ⟨_, Tryz.func119, rfl, rfl⟩ ?_; (conv => { arg 6; simp (disch := omega) [fr, h0] }); refine zaf (c1) rfl ?_; (conv => { arg 5; simp (disch := omega) [fr, h0] })))) | (refine zab rfl ?_ ?_; (focus (simp; done))))); with_reducible refine zad ?_; (first | refine ⟨rfl, ?_⟩ | refine ⟨by simp [quietB], by simp [quietU], ?_⟩ | skip)) | (refine WL.cond ?_; (conv => { arg 1; simp (disch := omega) [fr, h0] }); with_reducible (first | refine zaj ?_ | refine zak ?_ | refine zag (by omega) ?_ | refine zah (by omega) ?_))))
    refine ⟨[], ?_⟩
    simp (disch := omega) [wh]
theorem zql (s : Bool) (n g : Nat) (hg : g ∣ n) : zs s n / (g : Int) = zs s (n / g) := by
  cases s
  · simp [zs]
  · simp only [zs, if_true]
    obtain ⟨k, rfl⟩ := hg
    rcases Nat.eq_zero_or_pos g with rfl | h
    · simp
    · rw [Nat.mul_div_cancel_left _ h]
      have : (-((g * k : Nat) : Int)) = (g : Int) * (-(k : Int)) := by simp [Int.mul_neg]
      rw [this, Int.mul_ediv_cancel_left _ (by omega)]
theorem zre (s : Bool) (n d : Nat) (hd : d ≠ 0) : frQ (mkRat (zs s n) d) = fr (decide (zs s (n / Nat.gcd n d) < 0)) (nw (n / Nat.gcd n d)) (nw (d / Nat.gcd n d)) := by
  unfold frQ
  rw [Rat.num_mkRat, Rat.den_mkRat, if_neg hd, if_neg hd, zgs, Nat.gcd_comm d n, zql _ _ _ (Nat.gcd_dvd_left n d), zgs]
theorem zgn (s : Bool) (N D : List Nat) (hN : wf N) (hD : wf D) (h0 : 0 < val D) (hlN : N.length ≤ 274877906944) (hlD : D.length ≤ 274877906944) :
    CallOk Tryz.prog 81 [wh s N, wl D] [] (frQ (mkRat (zv s N) (val D))) [] := by
  have c1 := commonCancel N D hN hD hlN hlD h0
  have hl1 : (nw (val N / Nat.gcd (val N) (val D))).length ≤ 1099511627776 := by
    have h1 := zat (Nat.div_le_self (val N) (Nat.gcd (val N) (val D)))
    have h2 := zao hN
    omega
  have c2 := wholeNorm s (nw (val N / Nat.gcd (val N) (val D))) (zaq _) hl1
  unfold zv at c2 ⊢
  rw [zam] at c2
  rw [zre _ _ _ (by omega)]
  generalize val N / Nat.gcd (val N) (val D) = N' at *
  generalize val D / Nat.gcd (val N) (val D) = D' at *
  have e : whZ (zs s N') = wh (decide (zs s N' < 0)) (nw N') := by unfold whZ; rw [zgs]
  rw [e] at c2
  generalize decide (zs s N' < 0) = s' at *
  refine CallOk.of_wl Tryz.func81 rfl rfl rfl (Nat.le_of_ble_eq_true rfl) ?_
  (repeat (first | with_reducible (first | refine WL.seq ?_ | refine WL.skip ?_ | refine WL.label ?_ | refine WL.block ?_ | refine WL.scope ?_ | refine WL.nilS ?_ | refine WL.reS ?_ | refine WL.exS ?_ | refine WL.nilB ?_ | refine WL.nilT ?_ | refine WL.exit ?_ | refine WL.ret ?_ | refine WL.exT ?_ | refine WL.exB ?_ | refine WL.exN rfl ?_ | refine WL.reT ?_ | refine WL.reB ?_) | ((first | refine WL.reg rfl ?_ | refine WL.regT zai rfl ?_); (conv => { arg 3; simp [prep, prep1] }); (repeat (first | (refine zae ?_ ?_; (focus (simp; done)); (conv => { arg 4; simp (disch := omega) [wh] }); (first | (first | refine zaa ?_ | (refine zac ?_; (conv => { arg 5; simp }))) | ((first | refine zal true rfl rfl ⟨_, Tryz.func120, rfl, rfl⟩ ?_ | refine zal true rfl rfl ⟨_, Tryz.func121, rfl, rfl⟩ ?_); (conv => { arg 6; simp (disch := omega) [wh] }); (first | refine zaf (c1) rfl ?_ | refine zaf (c2) rfl ?_); (conv => { arg 5; simp (disch := omega) [wh] })))) | (refine zab rfl ?_ ?_; (focus (simp; done))))); with_reducible refine zad ?_; (first | refine ⟨rfl, ?_⟩ | refine ⟨by simp [quietB], by simp [quietU], ?_⟩ | skip)) | (refine WL.cond ?_; (conv => { arg 1; simp (disch := omega) [wh] }); with_reducible (first | refine zaj ?_ | refine zak ?_ | refine zag (by omega) ?_ | refine zah (by omega) ?_))))
  refine ⟨[], ?_⟩
  simp (disch := omega) [fr]
theorem zep (s : Bool) (N D : List Nat) (hN : wf N) (hD : wf D) (hl : N.length + D.length ≤ 274877906944) : CallOk Tryz.prog 83 [wh s N, wl D] [] (whZ (zv s N * val D)) [] := by
  have c1 := zna s false N D hN hD hl
  have e : zv false D = val D := by simp [zv, zs]
  rw [e] at c1
  generalize zv s N * val D = z at *
  refine CallOk.of_wl Tryz.func83 rfl rfl rfl (Nat.le_of_ble_eq_true rfl) ?_
  (repeat (first | with_reducible (first | refine WL.seq ?_ | refine WL.skip ?_ | refine WL.label ?_ | refine WL.block ?_ | refine WL.scope ?_ | refine WL.nilS ?_ | refine WL.reS ?_ | refine WL.exS ?_ | refine WL.nilB ?_ | refine WL.nilT ?_ | refine WL.exit ?_ | refine WL.ret ?_ | refine WL.exT ?_ | refine WL.exB ?_ | refine WL.exN rfl ?_ | refine WL.reT ?_ | refine WL.reB ?_) | ((first | refine WL.reg rfl ?_ | refine WL.regT zai rfl ?_); (conv => { arg 3; simp [prep, prep1] }); (repeat (first | (refine zae ?_ ?_; (focus (simp; done)); (conv => { arg 4; simp (disch := omega) [wh] }); (first | (first | refine zaa ?_ | (refine zac ?_; (conv => { arg 5; simp }))) | (refine zal true rfl rfl ⟨_, Tryz.func98, rfl, rfl⟩ ?_; (conv => { arg 6; simp (disch := omega) [wh] }); refine zaf (c1) rfl ?_; (conv => { arg 5; simp (disch := omega) [wh] })))) | (refine zab rfl ?_ ?_; (focus (simp; done))))); with_reducible refine zad ?_; (first | refine ⟨rfl, ?_⟩ | refine ⟨by simp [quietB], by simp [quietU], ?_⟩ | skip)) | (refine WL.cond ?_; (conv => { arg 1; simp (disch := omega) [wh] }); with_reducible (first | refine zaj ?_ | refine zak ?_ | refine zag (by omega) ?_ | refine zah (by omega) ?_))))
  refine ⟨[], ?_⟩
  simp (disch := omega) [whZ, wh]
theorem zqi (n : Nat) : n < 4294967296 ^ (nw n).length := by
  have := zax (zaq n); rwa [zam] at this
theorem zby (a b : Nat) : (nw (a * b)).length ≤ (nw a).length + (nw b).length := zbz (by
  rw [Nat.pow_add]; exact Nat.mul_lt_mul'' (zqi a) (zqi b))
theorem zpw (a b : Nat) : (nw (a + b)).length ≤ max (nw a).length (nw b).length + 1 := zbz (by
  have h1 : a < 4294967296 ^ max (nw a).length (nw b).length := Nat.lt_of_lt_of_le (zqi a) (Nat.pow_le_pow_right (by decide) (Nat.le_max_left _ _))
  have h2 : b < 4294967296 ^ max (nw a).length (nw b).length := Nat.lt_of_lt_of_le (zqi b) (Nat.pow_le_pow_right (by decide) (Nat.le_max_right _ _))
  rw [Nat.pow_succ]
  generalize 4294967296 ^ max (nw a).length (nw b).length = P at *
  omega)
theorem zhe (x y : Int) : (nw (x + y).natAbs).length ≤ max (nw x.natAbs).length (nw y.natAbs).length + 1 :=
  Nat.le_trans (zat (Int.natAbs_add_le x y)) (zpw _ _)
theorem zdy (s : Bool) (N E : List Nat) (hN : wf N) (hE : wf E) : (nw (zv s N * val E).natAbs).length ≤ N.length + E.length := by
  rw [Int.natAbs_mul, zkz, Int.natAbs_natCast]
  have h1 := zby (val N) (val E)
  have h2 := zao hN
  have h3 := zao hE
  omega
theorem zfx (N E : List Nat) (hN : wf N) (hE : wf E) : (nw (val N * val E)).length ≤ N.length + E.length := by
  have h1 := zby (val N) (val E)
  have h2 := zao hN
  have h3 := zao hE
  omega
theorem wholeAddZ (x y : Int) (hx : (nw x.natAbs).length ≤ 274877906944) (hy : (nw y.natAbs).length ≤ 274877906944) : CallOk Tryz.prog 82 [whZ x, whZ y] [] (whZ (x + y)) [] := by
  have := znb (decide (x < 0)) (decide (y < 0)) _ _ (zaq x.natAbs) (zaq y.natAbs) hx hy
  rwa [zin, zin] at this
theorem wholeSubZ (x y : Int) (hx : (nw x.natAbs).length ≤ 274877906944) (hy : (nw y.natAbs).length ≤ 274877906944) : CallOk Tryz.prog 151 [whZ x, whZ y] [] (whZ (x - y)) [] := by
  have := wholeSub (decide (x < 0)) (decide (y < 0)) _ _ (zaq x.natAbs) (zaq y.natAbs) hx hy
  rwa [zin, zin] at this
theorem zfh (z : Int) (d : Nat) (h0 : 0 < d) (hx : (nw z.natAbs).length ≤ 274877906944) (hy : (nw d).length ≤ 274877906944) : CallOk Tryz.prog 81 [whZ z, wl (nw d)] [] (frQ (mkRat z d)) [] := by
  have := zgn (decide (z < 0)) _ _ (zaq z.natAbs) (zaq d) (by rw [zam]; exact h0) hx hy
  rwa [zin, zam] at this
theorem fracAdd (sa sb : Bool) (na da nb db : List Nat) (h1 : wf na) (h2 : wf da) (h3 : wf nb) (h4 : wf db) (l1 : na.length ≤ 68719476736) (l2 : da.length ≤ 68719476736) (l3 : nb.length ≤ 68719476736) (l4 : db.length ≤ 68719476736) :
    CallOk Tryz.prog 29 [fr sa na da, fr sb nb db] [] (frQ (qv sa na da + qv sb nb db)) [] := by
  obtain ⟨s, N, D, c1, p1⟩ := zca sa na da h1 h2 (by omega)
  obtain ⟨t, M, E, c2, p2⟩ := zca sb nb db h3 h4 (by omega)
  obtain ⟨wN, wD, hD, hv1, lN, lD⟩ := p1
  obtain ⟨wM, wE, hE, hv2, lM, lE⟩ := p2
  have c3 := zep s N E wN wE (by omega)
  have c4 := zep t M D wM wD (by omega)
  have k1 := zdy s N E wN wE
  have k2 := zdy t M D wM wD
  have c5 := wholeAddZ (zv s N * val E) (zv t M * val D) (by omega) (by omega)
  have k3 := zhe (zv s N * val E) (zv t M * val D)
  have c6 := zhy D E wD wE (by omega)
  have k4 := zfx D E wD wE
  have c7 := zfh (zv s N * val E + zv t M * val D) (val D * val E) (Nat.mul_pos hD hE) (by omega) (by omega)
  rw [← Rat.mkRat_add_mkRat _ _ (by omega) (by omega), ← hv1, ← hv2] at c7
  generalize qv sa na da + qv sb nb db = q at *
  generalize zv s N * val E + zv t M * val D = z3 at *
  generalize zv s N * val E = z1 at *
  generalize zv t M * val D = z2 at *
  generalize val D * val E = de at *
  refine CallOk.of_wl Tryz.func29 rfl rfl rfl (Nat.le_of_ble_eq_true rfl) ?_
  (repeat (first | with_reducible (first | refine WL.seq ?_ | refine WL.skip ?_ | refine WL.label ?_ | refine WL.block ?_ | refine WL.scope ?_ | refine WL.nilS ?_ | refine WL.reS ?_ | refine WL.exS ?_ | refine WL.nilB ?_ | refine WL.nilT ?_ | refine WL.exit ?_ | refine WL.ret ?_ | refine WL.exT ?_ | refine WL.exB ?_ | refine WL.exN rfl ?_ | refine WL.reT ?_ | refine WL.reB ?_) | ((first | refine WL.reg rfl ?_ | refine WL.regT zai rfl ?_); (conv => { arg 3; simp [prep, prep1] }); (repeat (first | (refine zae ?_ ?_; (focus (simp; done)); (conv => { arg 4; simp (disch := omega) [fr, wh, whZ, frQ] }); (first | (first | refine zaa ?_ | (refine zac ?_; (conv => { arg 5; simp }))) | ((first | refine zal true rfl rfl ⟨_, Tryz.func79, rfl, rfl⟩ ?_ | refine zal true rfl rfl ⟨_, Tryz.func83, rfl, rfl⟩ ?_ | refine zal true rfl rfl ⟨_, Tryz.func82, rfl, rfl⟩ ?_ | refine zal true rfl rfl ⟨_, Tryz.func84, rfl, rfl⟩ ?_ | refine zal true rfl rfl ⟨_, Tryz.func81, rfl, rfl⟩ ?_); (conv => { arg 6; simp (disch := omega) [fr, wh, whZ, frQ] }); (first | refine zaf (c1) rfl ?_ | refine zaf (c2) rfl ?_ | refine zaf (c3) rfl ?_ | refine zaf (c4) rfl ?_ | refine zaf (c5) rfl ?_ | refine zaf (c6) rfl ?_ | refine zaf (c7) rfl ?_); (conv => { arg 5; simp (disch := omega) [fr, wh, whZ, frQ] })))) | (refine zab rfl ?_ ?_; (focus (simp; done))))); with_reducible refine zad ?_; (first | refine ⟨rfl, ?_⟩ | refine ⟨by simp [quietB], by simp [quietU], ?_⟩ | skip)) | (refine WL.cond ?_; (conv => { arg 1; simp (disch := omega) [fr, wh, whZ, frQ] }); with_reducible (first | refine zaj ?_ | refine zak ?_ | refine zag (by omega) ?_ | refine zah (by omega) ?_))))
  refine ⟨[], ?_⟩
  simp (disch := omega) [frQ, fr]
theorem fracSub (sa sb : Bool) (na da nb db : List Nat) (h1 : wf na) (h2 : wf da) (h3 : wf nb) (h4 : wf db) (l1 : na.length ≤ 68719476736) (l2 : da.length ≤ 68719476736) (l3 : nb.length ≤ 68719476736) (l4 : db.length ≤ 68719476736) :
    CallOk Tryz.prog 107 [fr sa na da, fr sb nb db] [] (frQ (qv sa na da - qv sb nb db)) [] := by
  obtain ⟨s, N, D, c1, p1⟩ := zca sa na da h1 h2 (by omega)
  obtain ⟨t, M, E, c2, p2⟩ := zca sb nb db h3 h4 (by omega)
  obtain ⟨wN, wD, hD, hv1, lN, lD⟩ := p1
  obtain ⟨wM, wE, hE, hv2, lM, lE⟩ := p2
  have c3 := zep s N E wN wE (by omega)
  have c4 := zep t M D wM wD (by omega)
  have k1 := zdy s N E wN wE
  have k2 := zdy t M D wM wD
  have c5 := wholeSubZ (zv s N * val E) (zv t M * val D) (by omega) (by omega)
  have k3 := zhe (zv s N * val E) (-(zv t M * val D))
  rw [Int.natAbs_neg, ← Int.sub_eq_add_neg] at k3
  have c6 := zhy D E wD wE (by omega)
  have k4 := zfx D E wD wE
  have c7 := zfh (zv s N * val E - zv t M * val D) (val D * val E) (Nat.mul_pos hD hE) (by omega) (by omega)
  have e : mkRat (zv s N * val E - zv t M * val D) (val D * val E) = qv sa na da - qv sb nb db := by
    rw [hv1, hv2, Rat.sub_eq_add_neg, Rat.neg_mkRat, Rat.mkRat_add_mkRat _ _ (by omega) (by omega), Int.neg_mul, ← Int.sub_eq_add_neg]
  rw [e] at c7
  generalize qv sa na da - qv sb nb db = q at *
  generalize zv s N * val E - zv t M * val D = z3 at *
  generalize zv s N * val E = z1 at *
  generalize zv t M * val D = z2 at *
  generalize val D * val E = de at *
  refine CallOk.of_wl Tryz.func107 rfl rfl rfl (Nat.le_of_ble_eq_true rfl) ?_
  (repeat (first | with_reducible (first | refine WL.seq ?_ | refine WL.skip ?_ | refine WL.label ?_ | refine WL.block ?_ | refine WL.scope ?_ | refine WL.nilS ?_ | refine WL.reS ?_ | refine WL.exS ?_ | refine WL.nilB ?_ | refine WL.nilT ?_ | refine WL.exit ?_ | refine WL.ret ?_ | refine WL.exT ?_ | refine WL.exB ?_ | refine WL.exN rfl ?_ | refine WL.reT ?_ | refine WL.reB ?_) | ((first | refine WL.reg rfl ?_ | refine WL.regT zai rfl ?_); (conv => { arg 3; simp [prep, prep1] }); (repeat (first | (refine zae ?_ ?_; (focus (simp; done)); (conv => { arg 4; simp (disch := omega) [fr, wh, whZ, frQ] }); (first | (first | refine zaa ?_ | (refine zac ?_; (conv => { arg 5; simp }))) | ((first | refine zal true rfl rfl ⟨_, Tryz.func79, rfl, rfl⟩ ?_ | refine zal true rfl rfl ⟨_, Tryz.func83, rfl, rfl⟩ ?_ | refine zal true rfl rfl ⟨_, Tryz.func151, rfl, rfl⟩ ?_ | refine zal true rfl rfl ⟨_, Tryz.func84, rfl, rfl⟩ ?_ | refine zal true rfl rfl ⟨_, Tryz.func81, rfl, rfl⟩ ?_); (conv => { arg 6; simp (disch := omega) [fr, wh, whZ, frQ] }); (first | refine zaf (c1) rfl ?_ | refine zaf (c2) rfl ?_ | refine zaf (c3) rfl ?_ | refine zaf (c4) rfl ?_ | refine zaf (c5) rfl ?_ | refine zaf (c6) rfl ?_ | refine zaf (c7) rfl ?_); (conv => { arg 5; simp (disch := omega) [fr, wh, whZ, frQ] })))) | (refine zab rfl ?_ ?_; (focus (simp; done))))); with_reducible refine zad ?_; (first | refine ⟨rfl, ?_⟩ | refine ⟨by simp [quietB], by simp [quietU], ?_⟩ | skip)) | (refine WL.cond ?_; (conv => { arg 1; simp (disch := omega) [fr, wh, whZ, frQ] }); with_reducible (first | refine zaj ?_ | refine zak ?_ | refine zag (by omega) ?_ | refine zah (by omega) ?_))))
  refine ⟨[], ?_⟩
  simp (disch := omega) [frQ, fr]
theorem fracMul (sa sb : Bool) (na da nb db : List Nat) (h1 : wf na) (h2 : wf da) (h3 : wf nb) (h4 : wf db) (l1 : na.length ≤ 68719476736) (l2 : da.length ≤ 68719476736) (l3 : nb.length ≤ 68719476736) (l4 : db.length ≤ 68719476736) :
    CallOk Tryz.prog 50 [fr sa na da, fr sb nb db] [] (frQ (qv sa na da * qv sb nb db)) [] := by
  obtain ⟨s, N, D, c1, p1⟩ := zca sa na da h1 h2 (by omega)
  obtain ⟨t, M, E, c2, p2⟩ := zca sb nb db h3 h4 (by omega)
  obtain ⟨wN, wD, hD, hv1, lN, lD⟩ := p1
  obtain ⟨wM, wE, hE, hv2, lM, lE⟩ := p2
  have c5 := zna s t N M wN wM (by omega)
  have k3 : (nw (zv s N * zv t M).natAbs).length ≤ N.length + M.length := by
    rw [Int.natAbs_mul, zkz, zkz]
    exact zfx N M wN wM
  have c6 := zhy D E wD wE (by omega)
  have k4 := zfx D E wD wE
  have c7 := zfh (zv s N * zv t M) (val D * val E) (Nat.mul_pos hD hE) (by omega) (by omega)
  rw [← Rat.mkRat_mul_mkRat, ← hv1, ← hv2] at c7
  generalize qv sa na da * qv sb nb db = q at *
  generalize zv s N * zv t M = z3 at *
  generalize val D * val E = de at *
  refine CallOk.of_wl Tryz.func50 rfl rfl rfl (Nat.le_of_ble_eq_true rfl) ?_
  (repeat (first | with_reducible (first | refine WL.seq ?_ | refine WL.skip ?_ | refine WL.label ?_ | refine WL.block ?_ | refine WL.scope ?_ | refine WL.nilS ?_ | refine WL.reS ?_ | refine WL.exS ?_ | refine WL.nilB ?_ | refine WL.nilT ?_ | refine WL.exit ?_ | refine WL.ret ?_ | refine WL.exT ?_ | refine WL.exB ?_ | refine WL.exN rfl ?_ | refine WL.reT ?_ | refine WL.reB ?_) | ((first | refine WL.reg rfl ?_ | refine WL.regT zai rfl ?_); (conv => { arg 3; simp [prep, prep1] }); (repeat (first | (refine zae ?_ ?_; (focus (simp; done)); (conv => { arg 4; simp (disch := omega) [fr, wh, whZ, frQ] }); (first | (first | refine zaa ?_ | (refine zac ?_; (conv => { arg 5; simp }))) | ((first | refine zal true rfl rfl ⟨_, Tryz.func79, rfl, rfl⟩ ?_ | refine zal true rfl rfl ⟨_, Tryz.func98, rfl, rfl⟩ ?_ | refine zal true rfl rfl ⟨_, Tryz.func84, rfl, rfl⟩ ?_ | refine zal true rfl rfl ⟨_, Tryz.func81, rfl, rfl⟩ ?_); (conv => { arg 6; simp (disch := omega) [fr, wh, whZ, frQ] }); (first | refine zaf (c1) rfl ?_ | refine zaf (c2) rfl ?_ | refine zaf (c5) rfl ?_ | refine zaf (c6) rfl ?_ | refine zaf (c7) rfl ?_); (conv => { arg 5; simp (disch := omega) [fr, wh, whZ, frQ] })))) | (refine zab rfl ?_ ?_; (focus (simp; done))))); with_reducible refine zad ?_; (first | refine ⟨rfl, ?_⟩ | refine ⟨by simp [quietB], by simp [quietU], ?_⟩ | skip)) | (refine WL.cond ?_; (conv => { arg 1; simp (disch := omega) [fr, wh, whZ, frQ] }); with_reducible (first | refine zaj ?_ | refine zak ?_ | refine zag (by omega) ?_ | refine zah (by omega) ?_))))
  refine ⟨[], ?_⟩
  simp (disch := omega) [frQ, fr]
theorem zoc (sa : Bool) (na da : List Nat) (h1 : wf na) (h2 : wf da) (l1 : na.length ≤ 68719476736) (l2 : da.length ≤ 68719476736) :
    CallOk Tryz.prog 78 [fr sa na da] [] (frQ (qv sa na da)) [] := by
  obtain ⟨s, N, D, c1, p1⟩ := zca sa na da h1 h2 (by omega)
  obtain ⟨wN, wD, hD, hv1, lN, lD⟩ := p1
  have c7 := zgn s N D wN wD hD (by omega) (by omega)
  rw [← hv1] at c7
  generalize qv sa na da = q at *
  refine CallOk.of_wl Tryz.func78 rfl rfl rfl (Nat.le_of_ble_eq_true rfl) ?_
  (repeat (first | with_reducible (first | refine WL.seq ?_ | refine WL.skip ?_ | refine WL.label ?_ | refine WL.block ?_ | refine WL.scope ?_ | refine WL.nilS ?_ | refine WL.reS ?_ | refine WL.exS ?_ | refine WL.nilB ?_ | refine WL.nilT ?_ | refine WL.exit ?_ | refine WL.ret ?_ | refine WL.exT ?_ | refine WL.exB ?_ | refine WL.exN rfl ?_ | refine WL.reT ?_ | refine WL.reB ?_) | ((first | refine WL.reg rfl ?_ | refine WL.regT zai rfl ?_); (conv => { arg 3; simp [prep, prep1] }); (repeat (first | (refine zae ?_ ?_; (focus (simp; done)); (conv => { arg 4; simp (disch := omega) [fr, wh, whZ, frQ] }); (first | (first | refine zaa ?_ | (refine zac ?_; (conv => { arg 5; simp }))) | ((first | refine zal true rfl rfl ⟨_, Tryz.func79, rfl, rfl⟩ ?_ | refine zal true rfl rfl ⟨_, Tryz.func81, rfl, rfl⟩ ?_); (conv => { arg 6; simp (disch := omega) [fr, wh, whZ, frQ] }); (first | refine zaf (c1) rfl ?_ | refine zaf (c7) rfl ?_); (conv => { arg 5; simp (disch := omega) [fr, wh, whZ, frQ] })))) | (refine zab rfl ?_ ?_; (focus (simp; done))))); with_reducible refine zad ?_; (first | refine ⟨rfl, ?_⟩ | refine ⟨by simp [quietB], by simp [quietU], ?_⟩ | skip)) | (refine WL.cond ?_; (conv => { arg 1; simp (disch := omega) [fr, wh, whZ, frQ] }); with_reducible (first | refine zaj ?_ | refine zak ?_ | refine zag (by omega) ?_ | refine zah (by omega) ?_))))
  refine ⟨[], ?_⟩
  simp (disch := omega) [frQ, fr]
def sgnQ (q : Rat) : Int := sgn q.num
theorem zqu (z : Int) (d : Nat) (hd : 0 < d) : sgn z = sgnQ (mkRat z d) := by
  unfold sgnQ
  rw [Rat.num_mkRat, if_neg (by omega)]
  have hg : 0 < Nat.gcd d z.natAbs := Nat.gcd_pos_of_pos_left _ hd
  have hdv : ((Nat.gcd d z.natAbs : Nat) : Int) ∣ z := by
    rw [Int.ofNat_dvd_left]; exact Nat.gcd_dvd_right _ _
  obtain ⟨k, hk⟩ := hdv
  generalize Nat.gcd d z.natAbs = g at *
  have hg' : (0 : Int) < g := by omega
  subst hk
  rw [Int.mul_ediv_cancel_left _ (by omega)]
  unfold sgn
  rcases Int.lt_trichotomy k 0 with h | h | h
  · have := Int.mul_neg_of_pos_of_neg hg' h
    rw [if_neg (by omega), if_pos this, if_neg (by omega), if_pos h]
  · subst h; simp
  · have := Int.mul_pos hg' h
    rw [if_neg (by omega), if_neg (by omega), if_neg (by omega), if_neg (by omega)]
theorem fracSign (sa : Bool) (na da : List Nat) (h1 : wf na) (h2 : wf da) (l1 : na.length ≤ 68719476736) (l2 : da.length ≤ 68719476736) :
    CallOk Tryz.prog 28 [fr sa na da] [] (.int .i64 (sgnQ (qv sa na da))) [] := by
  obtain ⟨s, N, D, c1, p1⟩ := zca sa na da h1 h2 (by omega)
  obtain ⟨wN, wD, hD, hv1, lN, lD⟩ := p1
  have c7 := zhm s N wN (by omega)
  rw [zqu _ _ hD, ← hv1] at c7
  generalize qv sa na da = q at *
  refine CallOk.of_wl Tryz.func28 rfl rfl rfl (Nat.le_of_ble_eq_true rfl) ?_
  (repeat (first | with_reducible (first | refine WL.seq ?_ | refine WL.skip ?_ | refine WL.label ?_ | refine WL.block ?_ | refine WL.scope ?_ | refine WL.nilS ?_ | refine WL.reS ?_ | refine WL.exS ?_ | refine WL.nilB ?_ | refine WL.nilT ?_ | refine WL.exit ?_ | refine WL.ret ?_ | refine WL.exT ?_ | refine WL.exB ?_ | refine WL.exN rfl ?_ | refine WL.reT ?_ | refine WL.reB ?_) | ((first | refine WL.reg rfl ?_ | refine WL.regT zai rfl ?_); (conv => { arg 3; simp [prep, prep1] }); (repeat (first | (refine zae ?_ ?_; (focus (simp; done)); (conv => { arg 4; simp (disch := omega) [fr, wh, whZ, frQ] }); (first | (first | refine zaa ?_ | (refine zac ?_; (conv => { arg 5; simp }))) | ((first | refine zal true rfl rfl ⟨_, Tryz.func79, rfl, rfl⟩ ?_ | refine zal true rfl rfl ⟨_, Tryz.func80, rfl, rfl⟩ ?_); (conv => { arg 6; simp (disch := omega) [fr, wh, whZ, frQ] }); (first | refine zaf (c1) rfl ?_ | refine zaf (c7) rfl ?_); (conv => { arg 5; simp (disch := omega) [fr, wh, whZ, frQ] })))) | (refine zab rfl ?_ ?_; (focus (simp; done))))); with_reducible refine zad ?_; (first | refine ⟨rfl, ?_⟩ | refine ⟨by simp [quietB], by simp [quietU], ?_⟩ | skip)) | (refine WL.cond ?_; (conv => { arg 1; simp (disch := omega) [fr, wh, whZ, frQ] }); with_reducible (first | refine zaj ?_ | refine zak ?_ | refine zag (by omega) ?_ | refine zah (by omega) ?_))))
  refine ⟨[], ?_⟩
  simp (disch := omega) 
theorem zlk (q : Rat) : (decide (sgnQ q = 0)) = decide (q = 0) := by
  have : sgnQ q = 0 ↔ q = 0 := by
    rw [← Rat.num_eq_zero]
    unfold sgnQ sgn
    constructor
    · intro h
      split at h
      · assumption
      · split at h <;> simp at h
    · intro h; rw [h]; rfl
  by_cases h : q = 0
  · rw [decide_eq_true h, decide_eq_true (this.2 h)]
  · rw [decide_eq_false h, decide_eq_false (fun h' => h (this.1 h'))]
theorem zmu (n : Int) : frQ (n : Rat) = fr (decide (n < 0)) (nw n.natAbs) (nw 1) := by
  unfold frQ; rw [Rat.num_intCast, Rat.den_intCast]
theorem zeo (n : Int) (h : -9223372036854775808 ≤ n ∧ n ≤ 9223372036854775807) : CallOk Tryz.prog 60 [.int .i64 n] [] (frQ (n : Rat)) [] := by
  have c1 := wholeOf n h
  have c2 := zoo 1 (by decide)
  rw [zmu]
  unfold whZ at c1
  generalize decide (n < 0) = b at *
  generalize n.natAbs = k at *
  refine CallOk.of_wl Tryz.func60 rfl rfl rfl (Nat.le_of_ble_eq_true rfl) ?_
  (repeat (first | with_reducible (first | refine WL.seq ?_ | refine WL.skip ?_ | refine WL.label ?_ | refine WL.block ?_ | refine WL.scope ?_ | refine WL.nilS ?_ | refine WL.reS ?_ | refine WL.exS ?_ | refine WL.nilB ?_ | refine WL.nilT ?_ | refine WL.exit ?_ | refine WL.ret ?_ | refine WL.exT ?_ | refine WL.exB ?_ | refine WL.exN rfl ?_ | refine WL.reT ?_ | refine WL.reB ?_) | ((first | refine WL.reg rfl ?_ | refine WL.regT zai rfl ?_); (conv => { arg 3; simp [prep, prep1] }); (repeat (first | (refine zae ?_ ?_; (focus (simp; done)); (conv => { arg 4; simp (disch := omega) [wh] }); (first | (first | refine zaa ?_ | (refine zac ?_; (conv => { arg 5; simp }))) | ((first | refine zal true rfl rfl ⟨_, Tryz.func105, rfl, rfl⟩ ?_ | refine zal true rfl rfl ⟨_, Tryz.func106, rfl, rfl⟩ ?_); (conv => { arg 6; simp (disch := omega) [wh] }); (first | refine zaf (c1) rfl ?_ | refine zaf (c2) rfl ?_); (conv => { arg 5; simp (disch := omega) [wh] })))) | (refine zab rfl ?_ ?_; (focus (simp; done))))); with_reducible refine zad ?_; (first | refine ⟨rfl, ?_⟩ | refine ⟨by simp [quietB], by simp [quietU], ?_⟩ | skip)) | (refine WL.cond ?_; (conv => { arg 1; simp (disch := omega) [wh] }); with_reducible (first | refine zaj ?_ | refine zak ?_ | refine zag (by omega) ?_ | refine zah (by omega) ?_))))
  refine ⟨[], ?_⟩
  simp (disch := omega) [fr]
theorem wholeNegZ (x : Int) (hx : (nw x.natAbs).length ≤ 274877906944) : CallOk Tryz.prog 108 [whZ x] [] (whZ (-x)) [] := by
  have := zmz (decide (x < 0)) _ (zaq x.natAbs) (by omega)
  rwa [zin] at this
theorem frQ_neg (q : Rat) : frQ (-q) = fr (decide (-q.num < 0)) (nw (-q.num).natAbs) (nw q.den) := by
  unfold frQ; rw [Rat.neg_num, Rat.neg_den]
theorem zny (s : Bool) (n d : List Nat) (hn : wf n) : (nw (qv s n d).num.natAbs).length ≤ n.length := by
  unfold qv
  rw [Rat.num_mkRat]
  split
  · simp [zaw]
  · refine Nat.le_trans (zat ?_) (zao hn)
    unfold zv
    rw [zgs, zql _ _ _ (Nat.gcd_dvd_right _ _), zgs]
    exact Nat.div_le_self _ _
theorem lenQ_den (s : Bool) (n d : List Nat) (hd : wf d) : (nw (qv s n d).den).length ≤ max 1 d.length := by
  unfold qv
  rw [Rat.den_mkRat]
  split
  · rw [zft]; simp; omega
  · exact Nat.le_trans (zat (Nat.div_le_self _ _)) (Nat.le_trans (zao hd) (by omega))
theorem fracNeg (sa : Bool) (na da : List Nat) (h1 : wf na) (h2 : wf da) (l1 : na.length ≤ 68719476736) (l2 : da.length ≤ 68719476736) :
    CallOk Tryz.prog 64 [fr sa na da] [] (frQ (-(qv sa na da))) [] := by
  have c1 := zoc sa na da h1 h2 l1 l2
  have k := zny sa na da h1
  have c2 := wholeNegZ (qv sa na da).num (by omega)
  rw [frQ_neg]
  generalize qv sa na da = q at *
  unfold frQ at c1
  unfold whZ at c2
  generalize decide (q.num < 0) = b1 at *
  generalize decide (-q.num < 0) = b2 at *
  generalize q.num.natAbs = k1 at *
  generalize (-q.num).natAbs = k2 at *
  generalize q.den = d at *
  refine CallOk.of_wl Tryz.func64 rfl rfl rfl (Nat.le_of_ble_eq_true rfl) ?_
  (repeat (first | with_reducible (first | refine WL.seq ?_ | refine WL.skip ?_ | refine WL.label ?_ | refine WL.block ?_ | refine WL.scope ?_ | refine WL.nilS ?_ | refine WL.reS ?_ | refine WL.exS ?_ | refine WL.nilB ?_ | refine WL.nilT ?_ | refine WL.exit ?_ | refine WL.ret ?_ | refine WL.exT ?_ | refine WL.exB ?_ | refine WL.exN rfl ?_ | refine WL.reT ?_ | refine WL.reB ?_) | ((first | refine WL.reg rfl ?_ | refine WL.regT zai rfl ?_); (conv => { arg 3; simp [prep, prep1] }); (repeat (first | (refine zae ?_ ?_; (focus (simp; done)); (conv => { arg 4; simp (disch := omega) [fr, wh] }); (first | (first | refine zaa ?_ | (refine zac ?_; (conv => { arg 5; simp }))) | ((first | refine zal true rfl rfl ⟨_, Tryz.func78, rfl, rfl⟩ ?_ | refine zal true rfl rfl ⟨_, Tryz.func108, rfl, rfl⟩ ?_); (conv => { arg 6; simp (disch := omega) [fr, wh] }); (first | refine zaf (c1) rfl ?_ | refine zaf (c2) rfl ?_); (conv => { arg 5; simp (disch := omega) [fr, wh] })))) | (refine zab rfl ?_ ?_; (focus (simp; done))))); with_reducible refine zad ?_; (first | refine ⟨rfl, ?_⟩ | refine ⟨by simp [quietB], by simp [quietU], ?_⟩ | skip)) | (refine WL.cond ?_; (conv => { arg 1; simp (disch := omega) [fr, wh] }); with_reducible (first | refine zaj ?_ | refine zak ?_ | refine zag (by omega) ?_ | refine zah (by omega) ?_))))
  refine ⟨[], ?_⟩
  simp (disch := omega) [fr]
theorem zs_xor (z : Int) (t : Bool) : zs (decide (z < 0) != t) z.natAbs = if t = true then -z else z := by
  unfold zs; cases t <;> by_cases h : z < 0 <;> simp [h] <;> omega
theorem zqe (z : Int) (d e : Nat) (t : Bool) (m : Nat) (hd : 0 < d) (he : 0 < e) (hm : 0 < m) : mkRat (if t = true then -(z * e) else z * e) (d * m) = mkRat z d / mkRat (zs t m) e := by
  have h1 : ((d : Nat) : Rat) ≠ 0 := by simp; omega
  have h2 : ((e : Nat) : Rat) ≠ 0 := by simp; omega
  have h3 : ((m : Nat) : Rat) ≠ 0 := by simp; omega
  simp only [Rat.mkRat_eq_div]
  cases t <;> simp only [zs, Rat.natCast_mul, Rat.intCast_mul, Rat.intCast_neg, Rat.intCast_natCast, if_true, Bool.false_eq_true, if_false] <;> grind
set_option maxHeartbeats 1000000 in
theorem fracQuo (sa sb : Bool) (na da nb db : List Nat) (h1 : wf na) (h2 : wf da) (h3 : wf nb) (h4 : wf db) (l1 : na.length ≤ 68719476736) (l2 : da.length ≤ 68719476736) (l3 : nb.length ≤ 68719476736) (l4 : db.length ≤ 68719476736) :
    CallOk Tryz.prog 66 [fr sa na da, fr sb nb db] [] (.tup [frQ (qv sa na da / qv sb nb db), .bool (decide (qv sb nb db ≠ 0))]) [] := by
  obtain ⟨s, N, D, c1, p1⟩ := zca sa na da h1 h2 (by omega)
  obtain ⟨t, M, E, c2, p2⟩ := zca sb nb db h3 h4 (by omega)
  obtain ⟨wN, wD, hD, hv1, lN, lD⟩ := p1
  obtain ⟨wM, wE, hE, hv2, lM, lE⟩ := p2
  have c3 := zhm t M wM (by omega)
  have e3 := zlk (qv sb nb db)
  rw [zqu _ _ hE, ← hv2] at c3
  by_cases hz : qv sb nb db = 0
  · have c4 := zeo 0 (by omega)
    have e1 : qv sa na da / qv sb nb db = ((0 : Int) : Rat) := by rw [hz]; simp [Rat.div_def]
    rw [e1]
    have e4 : sgnQ (qv sb nb db) = 0 := by rw [hz]; rfl
    rw [e4] at c3
    generalize ((0 : Int) : Rat) = q0 at *
    simp only [ne_eq, hz, not_true_eq_false, decide_false]
    clear e1 e3 hv1 hv2 hz
    refine CallOk.of_wl Tryz.func66 rfl rfl rfl (Nat.le_of_ble_eq_true rfl) ?_
    (repeat (first | with_reducible (first | refine WL.seq ?_ | refine WL.skip ?_ | refine WL.label ?_ | refine WL.block ?_ | refine WL.scope ?_ | refine WL.nilS ?_ | refine WL.reS ?_ | refine WL.exS ?_ | refine WL.nilB ?_ | refine WL.nilT ?_ | refine WL.exit ?_ | refine WL.ret ?_ | refine WL.exT ?_ | refine WL.exB ?_ | refine WL.exN rfl ?_ | refine WL.reT ?_ | refine WL.reB ?_) | ((first | refine WL.reg rfl ?_ | refine WL.regT zai rfl ?_); (conv => { arg 3; simp [prep, prep1] }); (repeat (first | (refine zae ?_ ?_; (focus (simp; done)); (conv => { arg 4; simp (disch := omega) [fr, wh, frQ] }); (first | (first | refine zaa ?_ | (refine zac ?_; (conv => { arg 5; simp }))) | ((first | refine zal true rfl rfl ⟨_, Tryz.func79, rfl, rfl⟩ ?_ | refine zal true rfl rfl ⟨_, Tryz.func80, rfl, rfl⟩ ?_ | refine zal true rfl rfl ⟨_, Tryz.func60, rfl, rfl⟩ ?_); (conv => { arg 6; simp (disch := omega) [fr, wh, frQ] }); (first | refine zaf (c1) rfl ?_ | refine zaf (c2) rfl ?_ | refine zaf (c3) rfl ?_ | refine zaf (c4) rfl ?_); (conv => { arg 5; simp (disch := omega) [fr, wh, frQ] })))) | (refine zab rfl ?_ ?_; (focus (simp; done))))); with_reducible refine zad ?_; (first | refine ⟨rfl, ?_⟩ | refine ⟨by simp [quietB], by simp [quietU], ?_⟩ | skip)) | (refine WL.cond ?_; (conv => { arg 1; simp (disch := omega) [fr, wh, frQ] }); with_reducible (first | refine zaj ?_ | refine zak ?_ | refine zag (by omega) ?_ | refine zah (by omega) ?_))))
    refine ⟨[], ?_⟩
    simp (disch := omega) [frQ, fr]
  · have e4 : ¬ sgnQ (qv sb nb db) = 0 := by
      intro h; rw [h] at e3; simp [hz] at e3
    have hM : 0 < val M := by
      rcases Nat.eq_zero_or_pos (val M) with h | h
      · exfalso; apply hz; rw [hv2]
        have : zv t M = 0 := by unfold zv zs; rw [h]; cases t <;> rfl
        rw [this]; simp
      · exact h
    have c4 := zep s N E wN wE (by omega)
    have k1 := zdy s N E wN wE
    have c6 := zhy D M wD wM (by omega)
    have k4 := zfx D M wD wM
    have c7 := zgn (decide (zv s N * val E < 0) != t) (nw (zv s N * val E).natAbs) (nw (val D * val M)) (zaq _) (zaq _) (by rw [zam]; exact Nat.mul_pos hD hM) (by omega) (by omega)
    unfold zv at c7 hv1 hv2
    rw [zam, zam] at c7
    change CallOk _ _ _ _ (frQ (mkRat (zs (decide (zv s N * val E < 0) != t) (zv s N * val E).natAbs) _)) _ at c7
    rw [zs_xor, show zv s N = zs s (val N) from rfl, zqe _ _ _ _ _ hD hE hM, ← hv1, ← hv2] at c7
    change CallOk _ _ [wh (decide (zv s N * val E < 0) != t) (nw (zv s N * val E).natAbs), _] _ _ _ at c7
    unfold whZ at c4
    have hd : decide (qv sb nb db ≠ 0) = true := by simp [hz]
    rw [hd]
    clear e3 hv1 hv2 hz hd
    generalize qv sa na da / qv sb nb db = q at *
    generalize sgnQ (qv sb nb db) = z5 at *
    generalize decide (zv s N * val E < 0) = b1 at *
    generalize (zv s N * val E).natAbs = k1 at *
    generalize val D * val M = de at *
    refine CallOk.of_wl Tryz.func66 rfl rfl rfl (Nat.le_of_ble_eq_true rfl) ?_
    (repeat (first | with_reducible (first | refine WL.seq ?_ | refine WL.skip ?_ | refine WL.label ?_ | refine WL.block ?_ | refine WL.scope ?_ | refine WL.nilS ?_ | refine WL.reS ?_ | refine WL.exS ?_ | refine WL.nilB ?_ | refine WL.nilT ?_ | refine WL.exit ?_ | refine WL.ret ?_ | refine WL.exT ?_ | refine WL.exB ?_ | refine WL.exN rfl ?_ | refine WL.reT ?_ | refine WL.reB ?_) | ((first | refine WL.reg rfl ?_ | refine WL.regT zai rfl ?_); (conv => { arg 3; simp [prep, prep1] }); (repeat (first | (refine zae ?_ ?_; (focus (simp; done)); (conv => { arg 4; simp (disch := omega) [fr, wh, frQ, e4] }); (first | (first | refine zaa ?_ | (refine zac ?_; (conv => { arg 5; simp }))) | ((first | refine zal true rfl rfl ⟨_, Tryz.func79, rfl, rfl⟩ ?_ | refine zal true rfl rfl ⟨_, Tryz.func80, rfl, rfl⟩ ?_ | refine zal true rfl rfl ⟨_, Tryz.func83, rfl, rfl⟩ ?_ | refine zal true rfl rfl ⟨_, Tryz.func84, rfl, rfl⟩ ?_ | refine zal true rfl rfl ⟨_, Tryz.func81, rfl, rfl⟩ ?_); (conv => { arg 6; simp (disch := omega) [fr, wh, frQ, e4] }); (first | refine zaf (c1) rfl ?_ | refine zaf (c2) rfl ?_ | refine zaf (c3) rfl ?_ | refine zaf (c4) rfl ?_ | refine zaf (c6) rfl ?_ | refine zaf (c7) rfl ?_); (conv => { arg 5; simp (disch := omega) [fr, wh, frQ, e4] })))) | (refine zab rfl ?_ ?_; (focus (simp; done))))); with_reducible refine zad ?_; (first | refine ⟨rfl, ?_⟩ | refine ⟨by simp [quietB], by simp [quietU], ?_⟩ | skip)) | (refine WL.cond ?_; (conv => { arg 1; simp (disch := omega) [fr, wh, frQ, e4] }); with_reducible (first | refine zaj ?_ | refine zak ?_ | refine zag (by omega) ?_ | refine zah (by omega) ?_))))
    refine ⟨[], ?_⟩
    simp (disch := omega) [frQ, fr]
structure RF where
  neg : Bool
  n : List Nat
  d : List Nat
def RF.cells (a : RF) : List PV := [.bool a.neg, wl a.n, wl a.d]
def RF.pv (a : RF) : PV := .agg a.cells
def RF.q (a : RF) : Rat := qv a.neg a.n a.d
structure RF.ok (a : RF) (k : Nat) : Prop where
  wn : wf a.n
  wd : wf a.d
  ln : a.n.length ≤ k
  ld : a.d.length ≤ k
def RF.of (q : Rat) : RF := ⟨decide (q.num < 0), nw q.num.natAbs, nw q.den⟩
theorem RF.of_q (q : Rat) : (RF.of q).q = q := qv_frQ q
theorem RF.of_ok {q : Rat} {k : Nat} (h : szQ q ≤ k) : (RF.of q).ok k := ⟨zaq _, zaq _, Nat.le_trans (Nat.le_max_left _ _) h, Nat.le_trans (Nat.le_max_right _ _) h⟩
theorem RF.ok.mono {a : RF} {k m : Nat} (h : a.ok k) (hk : k ≤ m) : a.ok m := ⟨h.wn, h.wd, Nat.le_trans h.ln hk, Nat.le_trans h.ld hk⟩
def rowC (l : List RF) : List PV := l.flatMap RF.cells
def row (l : List RF) : PV := .rd (rowC l) l.length
def rowQ (l : List Rat) : PV := row (l.map RF.of)
theorem zap (l : List RF) : (rowC l).length = l.length * 3 := by
  induction l with
  | nil => rfl
  | cons a l ih => simp [rowC, RF.cells] at ih ⊢; omega
theorem zln (l : List RF) : ∀ i, (rowC l).drop (i * 3) = rowC (l.drop i) := by
  induction l with
  | nil => intro i; simp [rowC]
  | cons a l ih =>
    intro i
    cases i with
    | zero => simp
    | succ i =>
      have : (i + 1) * 3 = i * 3 + 1 + 1 + 1 := by omega
      rw [this]
      have e : rowC (a :: l) = .bool a.neg :: wl a.n :: wl a.d :: rowC l := rfl
      rw [e, List.drop_succ_cons, List.drop_succ_cons, List.drop_succ_cons, ih]
      simp
theorem zeh {l : List RF} {i : Nat} (h : i < l.length) : ((rowC l).drop (i * 3)).take 3 = (l[i]'h).cells := by
  rw [zln, List.drop_eq_getElem_cons h]; rfl
theorem zcm (a b : List RF) : rowC (a ++ b) = rowC a ++ rowC b := by simp [rowC]
theorem zlm (l : List RF) : ∀ i, (rowC l).take (i * 3) = rowC (l.take i) := by
  induction l with
  | nil => intro i; simp [rowC]
  | cons a l ih =>
    intro i
    cases i with
    | zero => simp [rowC]
    | succ i =>
      have : (i + 1) * 3 = i * 3 + 1 + 1 + 1 := by omega
      rw [this]
      have e : rowC (a :: l) = .bool a.neg :: wl a.n :: wl a.d :: rowC l := rfl
      rw [e, List.take_succ_cons, List.take_succ_cons, List.take_succ_cons, ih]
      rfl
theorem rowC_set {l : List RF} {i : Nat} (a : RF) (h : i < l.length) : (rowC l).take (i * 3) ++ a.cells ++ (rowC l).drop (i * 3 + 3) = rowC (l.set i a) := by
  have : i * 3 + 3 = (i + 1) * 3 := by omega
  rw [this, zlm, zln, List.set_eq_take_append_cons_drop, if_pos h, zcm]
  simp [rowC]
/-! ### lengths -/
theorem zen {s : Bool} {n d : List Nat} (hn : wf n) (hd : wf d) : szQ (qv s n d) ≤ max 1 (max n.length d.length) := by
  have h1 := zny s n d hn
  have h2 := lenQ_den s n d hd
  unfold szQ; omega
theorem znh (z : Int) (d : Nat) : szQ (mkRat z d) ≤ max 1 (max (nw z.natAbs).length (nw d).length) := by
  have := zen (s := decide (z < 0)) (zaq z.natAbs) (zaq d)
  unfold qv at this
  rwa [zin, zam] at this
theorem zmk (q : Rat) : 1 ≤ szQ q := by
  have : 0 < (nw q.den).length := nw_pos_len.2 q.den_pos
  unfold szQ; omega
theorem zcz (p q : Rat) : szQ (p * q) ≤ szQ p + szQ q := by
  have h := znh (p.num * q.num) (p.den * q.den)
  rw [← Rat.mkRat_mul_mkRat, Rat.mkRat_self, Rat.mkRat_self, Int.natAbs_mul] at h
  have h1 := zby p.num.natAbs q.num.natAbs
  have h2 := zby p.den q.den
  have h3 := zmk p
  unfold szQ at h3 ⊢
  unfold szQ at h
  omega
theorem zgi (p q : Rat) : szQ (p + q) ≤ szQ p + szQ q + 1 := by
  have h := znh (p.num * q.den + q.num * p.den) (p.den * q.den)
  rw [← Rat.mkRat_add_mkRat _ _ p.den_nz q.den_nz, Rat.mkRat_self, Rat.mkRat_self] at h
  have h1 := zhe (p.num * q.den) (q.num * p.den)
  rw [Int.natAbs_mul, Int.natAbs_mul, Int.natAbs_natCast, Int.natAbs_natCast] at h1
  have h2 := zby p.den q.den
  have h3 := zby p.num.natAbs q.den
  have h4 := zby q.num.natAbs p.den
  unfold szQ at h ⊢
  omega
theorem zgg (q : Rat) : szQ (-q) = szQ q := by unfold szQ; rw [Rat.neg_num, Rat.neg_den, Int.natAbs_neg]
theorem zcp (p q : Rat) : szQ (p - q) ≤ szQ p + szQ q + 1 := by
  rw [Rat.sub_eq_add_neg]; have := zgi p (-q); rwa [zgg] at this
theorem zgh (p q : Rat) : szQ (p / q) ≤ szQ p + szQ q := by
  by_cases h0 : q = 0
  · subst h0
    have : p / 0 = 0 := by simp [Rat.div_def]
    rw [this]
    have h1 : szQ 0 ≤ 1 := by have := znh 0 1; simpa [zaw, zft] using this
    have := zmk p
    omega
  · have hq : 0 < q.num.natAbs := by
      have : q.num ≠ 0 := fun h => h0 (Rat.num_eq_zero.1 h)
      omega
    have h := znh (if decide (q.num < 0) = true then -(p.num * q.den) else p.num * q.den) (p.den * q.num.natAbs)
    rw [zqe _ _ _ _ _ p.den_pos q.den_pos hq] at h
    have e : zs (decide (q.num < 0)) q.num.natAbs = q.num := by have := zin q.num; unfold zv at this; rwa [zam] at this
    rw [e, Rat.mkRat_self, Rat.mkRat_self] at h
    have e2 : (if decide (q.num < 0) = true then -(p.num * q.den) else p.num * q.den : Int).natAbs = p.num.natAbs * q.den := by
      split
      · rw [Int.natAbs_neg, Int.natAbs_mul, Int.natAbs_natCast]
      · rw [Int.natAbs_mul, Int.natAbs_natCast]
    rw [e2] at h
    have h1 := zby p.num.natAbs q.den
    have h2 := zby p.den q.num.natAbs
    have h3 := zmk p
    unfold szQ at h h3 ⊢
    omega
theorem zda (n : Int) (h : n.natAbs < 4294967296) : szQ (n : Rat) ≤ 1 := by
  unfold szQ
  rw [Rat.num_intCast, Rat.den_intCast, zft]
  have : (nw n.natAbs).length ≤ 1 := zbz (by simpa using h)
  simp only [List.length_cons, List.length_nil]; omega
/-! ### fractions as they stand, by their names -/
section
variable {a b : RF}
theorem rfAdd (ha : a.ok 68719476736) (hb : b.ok 68719476736) : CallOk Tryz.prog 29 [a.pv, b.pv] [] (frQ (a.q + b.q)) [] := fracAdd _ _ _ _ _ _ ha.wn ha.wd hb.wn hb.wd ha.ln ha.ld hb.ln hb.ld
theorem rfSub (ha : a.ok 68719476736) (hb : b.ok 68719476736) : CallOk Tryz.prog 107 [a.pv, b.pv] [] (frQ (a.q - b.q)) [] := fracSub _ _ _ _ _ _ ha.wn ha.wd hb.wn hb.wd ha.ln ha.ld hb.ln hb.ld
theorem zrl (ha : a.ok 68719476736) (hb : b.ok 68719476736) : CallOk Tryz.prog 50 [a.pv, b.pv] [] (frQ (a.q * b.q)) [] := fracMul _ _ _ _ _ _ ha.wn ha.wd hb.wn hb.wd ha.ln ha.ld hb.ln hb.ld
theorem zrr (ha : a.ok 68719476736) (hb : b.ok 68719476736) : CallOk Tryz.prog 66 [a.pv, b.pv] [] (.tup [frQ (a.q / b.q), .bool (decide (b.q ≠ 0))]) [] := fracQuo _ _ _ _ _ _ ha.wn ha.wd hb.wn hb.wd ha.ln ha.ld hb.ln hb.ld
theorem rfNeg (ha : a.ok 68719476736) : CallOk Tryz.prog 64 [a.pv] [] (frQ (- a.q)) [] := fracNeg _ _ _ ha.wn ha.wd ha.ln ha.ld
theorem zqw (ha : a.ok 68719476736) : CallOk Tryz.prog 28 [a.pv] [] (.int .i64 (sgnQ a.q)) [] := fracSign _ _ _ ha.wn ha.wd ha.ln ha.ld
end
section
variable {p q : Rat}
theorem qAdd (hp : szQ p ≤ 68719476736) (hq : szQ q ≤ 68719476736) : CallOk Tryz.prog 29 [frQ p, frQ q] [] (frQ (p + q)) [] := by
  have := rfAdd (RF.of_ok hp) (RF.of_ok hq); rwa [RF.of_q, RF.of_q] at this
theorem qMul (hp : szQ p ≤ 68719476736) (hq : szQ q ≤ 68719476736) : CallOk Tryz.prog 50 [frQ p, frQ q] [] (frQ (p * q)) [] := by
  have := zrl (RF.of_ok hp) (RF.of_ok hq); rwa [RF.of_q, RF.of_q] at this
theorem qNeg (hp : szQ p ≤ 68719476736) : CallOk Tryz.prog 64 [frQ p] [] (frQ (-p)) [] := by
  have := rfNeg (RF.of_ok hp); rwa [RF.of_q] at this
end
structure Spn where
  t : RF
  h : RF
  y0 : List RF
  y1 : List RF
  f0 : List RF
  f1 : List RF
def Spn.cells (c : Spn) : List PV := [.bool c.t.neg, wl c.t.n, wl c.t.d, .bool c.h.neg, wl c.h.n, wl c.h.d, row c.y0, row c.y1, row c.f0, row c.f1]
def Spn.pv (c : Spn) : PV := .agg c.cells
theorem zct (a b : Int) (q : Rat) (ha : a.natAbs < 4294967296) (hb : b.natAbs < 4294967296) (hq : szQ q ≤ 1073741824) :
    CallOk Tryz.prog 62 [.int .i64 a, .int .i64 b, frQ q] [] (frQ (a + b * q)) [] := by
  have c1 := zeo a (by omega)
  have c2 := zeo b (by omega)
  have s1 := zda a ha
  have s2 := zda b hb
  have s3 := zcz (b : Rat) q
  have c3 := qMul (p := (b : Rat)) (q := q) (by omega) (by omega)
  have c4 := qAdd (p := (a : Rat)) (q := (b : Rat) * q) (by omega) (by omega)
  generalize (a : Rat) + (b : Rat) * q = r at *
  generalize (b : Rat) * q = r2 at *
  generalize (a : Rat) = r3 at *
  generalize (b : Rat) = r4 at *
  refine CallOk.of_wl Tryz.func62 rfl rfl rfl (Nat.le_of_ble_eq_true rfl) ?_
  (repeat (first | with_reducible (first | refine WL.seq ?_ | refine WL.skip ?_ | refine WL.label ?_ | refine WL.block ?_ | refine WL.scope ?_ | refine WL.nilS ?_ | refine WL.reS ?_ | refine WL.exS ?_ | refine WL.nilB ?_ | refine WL.nilT ?_ | refine WL.exit ?_ | refine WL.ret ?_ | refine WL.exT ?_ | refine WL.exB ?_ | refine WL.exN rfl ?_ | refine WL.reT ?_ | refine WL.reB ?_) | ((first | refine WL.reg rfl ?_ | refine WL.regT zai rfl ?_); (conv => { arg 3; simp [prep, prep1] }); (repeat (first | (refine zae ?_ ?_; (focus (simp; done)); (conv => { arg 4; simp (disch := omega) [frQ, fr] }); (first | (first | refine zaa ?_ | (refine zac ?_; (conv => { arg 5; simp }))) | ((first | refine zal true rfl rfl ⟨_, Tryz.func60, rfl, rfl⟩ ?_ | refine zal true rfl rfl ⟨_, Tryz.func50, rfl, rfl⟩ ?_ | refine zal true rfl rfl ⟨_, Tryz.func29, rfl, rfl⟩ ?_); (conv => { arg 6; simp (disch := omega) [frQ, fr] }); (first | refine zaf (c1) rfl ?_ | refine zaf (c2) rfl ?_ | refine zaf (c3) rfl ?_ | refine zaf (c4) rfl ?_); (conv => { arg 5; simp (disch := omega) [frQ, fr] })))) | (refine zab rfl ?_ ?_; (focus (simp; done))))); with_reducible refine zad ?_; (first | refine ⟨rfl, ?_⟩ | refine ⟨by simp [quietB], by simp [quietU], ?_⟩ | skip)) | (refine WL.cond ?_; (conv => { arg 1; simp (disch := omega) [frQ, fr] }); with_reducible (first | refine zaj ?_ | refine zak ?_ | refine zag (by omega) ?_ | refine zah (by omega) ?_))))
  refine ⟨[], ?_⟩
  simp (disch := omega) [frQ, fr]
def prodQ (l : List Rat) : Rat := l.foldl (· * ·) 1
theorem zdo {l : List Rat} {i : Nat} (h : i < l.length) : ((rowC (l.map RF.of)).drop (i * 3)).take 3 = (RF.of (l[i]'h)).cells := by
  rw [zeh (by simpa using h)]; simp
theorem zjd (l : List Rat) (x : Rat) : prodQ (l ++ [x]) = prodQ l * x := by simp [prodQ]
theorem zjx : szQ 1 ≤ 1 := by have := zda 1 (by decide); simpa using this
def qs (l : List RF) : List Rat := l.map RF.q
theorem RF.ok.sz {a : RF} {k : Nat} (h : a.ok k) (hk : 1 ≤ k) : szQ a.q ≤ k := by
  have := zen (s := a.neg) h.wn h.wd
  have l1 := h.ln
  have l2 := h.ld
  unfold RF.q; omega
theorem zjw (K : Nat) (hK : 1 ≤ K) : ∀ l : List RF, (∀ x ∈ l, x.ok K) → ∀ i, i ≤ l.length → szQ (prodQ ((qs l).take i)) ≤ i * K + 1
  | l, h, 0, _ => by have := zjx; simpa [prodQ] using this
  | l, h, i + 1, hi => by
    have ih := zjw K hK l h i (by omega)
    have hil : i < (qs l).length := by simp [qs]; omega
    rw [List.take_succ_eq_append_getElem hil, zjd]
    have h1 := zcz (prodQ ((qs l).take i)) ((qs l)[i]'hil)
    have h2 := (h _ (List.getElem_mem (show i < l.length by omega))).sz hK
    have e : (qs l)[i]'hil = (l[i]'(by omega)).q := by simp [qs]
    rw [e] at h1 ⊢
    rw [Nat.succ_mul i]
    omega
theorem zdb (l : List RF) (K : Nat) (hK : 1 ≤ K) (hl : ∀ x ∈ l, x.ok K) (hs : (l.length + 1) * K ≤ 1073741824) : CallOk Tryz.prog 63 [row l] [] (frQ (prodQ (qs l))) [] := by
  have hll : l.length ≤ 1073741824 := by
    have : (l.length + 1) * 1 ≤ (l.length + 1) * K := Nat.mul_le_mul_left _ hK
    omega
  have hKK : K ≤ 1073741824 := by
    have : 1 * K ≤ (l.length + 1) * K := Nat.mul_le_mul_right _ (by omega)
    omega
  have c1 := zeo 1 (by omega)
  rw [show ((1 : Int) : Rat) = 1 from rfl] at c1
  have hlen := zap l
  refine CallOk.of_wl Tryz.func63 rfl rfl rfl (Nat.le_of_ble_eq_true rfl) ?_
  (repeat (first | with_reducible (first | refine WL.seq ?_ | refine WL.skip ?_ | refine WL.label ?_ | refine WL.block ?_ | refine WL.scope ?_ | refine WL.nilS ?_ | refine WL.reS ?_ | refine WL.exS ?_ | refine WL.nilB ?_ | refine WL.nilT ?_ | refine WL.exit ?_ | refine WL.ret ?_ | refine WL.exT ?_ | refine WL.exB ?_ | refine WL.exN rfl ?_ | refine WL.reT ?_ | refine WL.reB ?_) | ((first | refine WL.reg rfl ?_ | refine WL.regT zai rfl ?_); (conv => { arg 3; simp [prep, prep1] }); (repeat (first | (refine zae ?_ ?_; (focus (simp; done)); (conv => { arg 4; simp (disch := omega) [frQ, fr, row] }); (first | (first | refine zaa ?_ | (refine zac ?_; (conv => { arg 5; simp }))) | (refine zal true rfl rfl ⟨_, Tryz.func60, rfl, rfl⟩ ?_; (conv => { arg 6; simp (disch := omega) [frQ, fr, row] }); refine zaf (c1) rfl ?_; (conv => { arg 5; simp (disch := omega) [frQ, fr, row] })))) | (refine zab rfl ?_ ?_; (focus (simp; done))))); with_reducible refine zad ?_; (first | refine ⟨rfl, ?_⟩ | refine ⟨by simp [quietB], by simp [quietU], ?_⟩ | skip)) | (refine WL.cond ?_; (conv => { arg 1; simp (disch := omega) [frQ, fr, row] }); with_reducible (first | refine zaj ?_ | refine zak ?_ | refine zag (by omega) ?_ | refine zah (by omega) ?_))))
  refine WL.loop (fun m s => ∃ i : Nat, m = l.length - i ∧ i ≤ l.length ∧ s.frame 2 = .pt ⟨2, 0, 0⟩ 0 0 ∧ s.frame 3 = .pt ⟨3, 0, 0⟩ 0 0 ∧ s.frame 7 = .rd (rowC l) l.length ∧ s.frame 8 = .int .i64 l.length ∧ s.frame 9 = .int .i64 i ∧
      s.store ⟨2, 0, 0⟩ = some ⟨0, true, false, [.bool false, .nilS, .nilS]⟩ ∧ s.store ⟨3, 0, 0⟩ = some ⟨0, true, false, (RF.of (prodQ ((qs l).take i))).cells⟩) l.length ?_ ?_
  · exact ⟨0, by omega, by omega, by simp, by simp, by simp, by simp, by simp, by simp, by simp [prodQ, RF.cells, RF.of]⟩
  rintro m ⟨f, σ, g⟩ ⟨i, rfl, hi, h2, h3, h7, h8, h9, hs2, hs3⟩
  simp only at h2 h3 h7 h8 h9 hs2 hs3
  have hz := zjw K hK l hl i hi
  by_cases hi' : i < l.length
  · have hx := zeh hi'
    have hxo := hl _ (List.getElem_mem hi')
    have htk : (qs l).take (i + 1) = (qs l).take i ++ [(l[i]'hi').q] := by
      rw [List.take_succ_eq_append_getElem (by simpa [qs] using hi')]; simp [qs]
    have hiK : (i + 1) * K ≤ (l.length + 1) * K := Nat.mul_le_mul_right _ (by omega)
    rw [Nat.succ_mul i] at hiK
    have c2 := zrl (a := RF.of (prodQ ((qs l).take i))) (b := l[i]'hi') (RF.of_ok (by omega)) (hxo.mono (by omega))
    rw [RF.of_q, ← zjd, ← htk] at c2
    generalize l[i]'hi' = x at *
    have hlt : 3 ≤ (rowC l).length - i * 3 := by omega
    (repeat (first | with_reducible (first | refine WL.seq ?_ | refine WL.skip ?_ | refine WL.label ?_ | refine WL.block ?_ | refine WL.scope ?_ | refine WL.nilS ?_ | refine WL.reS ?_ | refine WL.exS ?_ | refine WL.nilB ?_ | refine WL.nilT ?_ | refine WL.exit ?_ | refine WL.ret ?_ | refine WL.exT ?_ | refine WL.exB ?_ | refine WL.exN rfl ?_ | refine WL.reT ?_ | refine WL.reB ?_) | ((first | refine WL.reg rfl ?_ | refine WL.regT zai rfl ?_); (conv => { arg 3; simp [prep, prep1] }); (repeat (first | (refine zae ?_ ?_; (focus (simp; done)); (conv => { arg 4; simp (disch := omega) [h7, h8, h9, hi', hx, hlen, RF.pv, RF.cells, RF.of, hlt, h3, hs3, frQ, fr] }); (first | (first | refine zaa ?_ | (refine zac ?_; (conv => { arg 5; simp }))) | (refine zal true rfl rfl ⟨_, Tryz.func50, rfl, rfl⟩ ?_; (conv => { arg 6; simp (disch := omega) [h7, h8, h9, hi', hx, hlen, RF.pv, RF.cells, RF.of, hlt, h3, hs3, frQ, fr] }); refine zaf (c2) rfl ?_; (conv => { arg 5; simp (disch := omega) [h7, h8, h9, hi', hx, hlen, RF.pv, RF.cells, RF.of, hlt, h3, hs3, frQ, fr] })))) | (refine zab rfl ?_ ?_; (focus (simp; done))))); with_reducible refine zad ?_; (first | refine ⟨rfl, ?_⟩ | refine ⟨by simp [quietB], by simp [quietU], ?_⟩ | skip)) | (refine WL.cond ?_; (conv => { arg 1; simp (disch := omega) [h7, h8, h9, hi', hx, hlen, RF.pv, RF.cells, RF.of, hlt, h3, hs3, frQ, fr] }); with_reducible (first | refine zaj ?_ | refine zak ?_ | refine zag (by omega) ?_ | refine zah (by omega) ?_))))
    exact ⟨l.length - (i + 1), by omega, i + 1, rfl, by omega, by simp [h2], by simp [h3], by simp [h7], by simp [h8], by simp, by simp [hs2], by simp [RF.cells, RF.of]⟩
  · have hia : i = l.length := by omega
    subst hia
    have hq : (qs l).take l.length = qs l := List.take_of_length_le (by simp [qs])
    rw [hq] at hs3
    (repeat (first | with_reducible (first | refine WL.seq ?_ | refine WL.skip ?_ | refine WL.label ?_ | refine WL.block ?_ | refine WL.scope ?_ | refine WL.nilS ?_ | refine WL.reS ?_ | refine WL.exS ?_ | refine WL.nilB ?_ | refine WL.nilT ?_ | refine WL.exit ?_ | refine WL.ret ?_ | refine WL.exT ?_ | refine WL.exB ?_ | refine WL.exN rfl ?_ | refine WL.reT ?_ | refine WL.reB ?_) | ((first | refine WL.reg rfl ?_ | refine WL.regT zai rfl ?_); (conv => { arg 3; simp [prep, prep1] }); (repeat (first | (refine zae ?_ ?_; (focus (simp; done)); (conv => { arg 4; simp (disch := omega) [h8, h9, h3, hs3, h2, hs2, RF.cells, RF.of] }); (first | (first | refine zaa ?_ | (refine zac ?_; (conv => { arg 5; simp }))))) | (refine zab rfl ?_ ?_; (focus (simp; done))))); with_reducible refine zad ?_; (first | refine ⟨rfl, ?_⟩ | refine ⟨by simp [quietB], by simp [quietU], ?_⟩ | skip)) | (refine WL.cond ?_; (conv => { arg 1; simp (disch := omega) [h8, h9, h3, hs3, h2, hs2, RF.cells, RF.of] }); with_reducible (first | refine zaj ?_ | refine zak ?_ | refine zag (by omega) ?_ | refine zah (by omega) ?_))))
    refine ⟨[], ?_⟩
    simp (disch := omega) [h2, frQ, fr]
def Spn.right (c : Spn) : Bool := decide (0 < sgnQ c.h.q) && decide ((c.y0.length : Int) ≤ 300) && decide (c.y1.length = c.y0.length) && decide (c.f0.length = c.y0.length) && decide (c.f1.length = c.y0.length)
theorem zdv (c : Spn) (hh : c.h.ok 68719476736) : CallOk Tryz.prog 20 [c.pv] [] (.bool c.right) [] := by
  have c1 := zqw hh
  unfold Spn.right
  generalize sgnQ c.h.q = z at *
  obtain ⟨t, h, y0, y1, f0, f1⟩ := c
  simp only [Spn.pv, Spn.cells] at *
  by_cases h1 : 0 < z
  · by_cases h2 : (y0.length : Int) ≤ 300
    · by_cases h3 : y1.length = y0.length
      · by_cases h4 : f0.length = y0.length
        · refine CallOk.of_wl Tryz.func20 rfl rfl rfl (Nat.le_of_ble_eq_true rfl) ?_
          (repeat (first | with_reducible (first | refine WL.seq ?_ | refine WL.skip ?_ | refine WL.label ?_ | refine WL.block ?_ | refine WL.scope ?_ | refine WL.nilS ?_ | refine WL.reS ?_ | refine WL.exS ?_ | refine WL.nilB ?_ | refine WL.nilT ?_ | refine WL.exit ?_ | refine WL.ret ?_ | refine WL.exT ?_ | refine WL.exB ?_ | refine WL.exN rfl ?_ | refine WL.reT ?_ | refine WL.reB ?_) | ((first | refine WL.reg rfl ?_ | refine WL.regT zai rfl ?_); (conv => { arg 3; simp [prep, prep1] }); (repeat (first | (refine zae ?_ ?_; (focus (simp; done)); (conv => { arg 4; simp (disch := omega) [row, RF.pv, RF.cells, h1, h2, h3, h4] }); (first | (first | refine zaa ?_ | (refine zac ?_; (conv => { arg 5; simp }))) | (refine zal true rfl rfl ⟨_, Tryz.func28, rfl, rfl⟩ ?_; (conv => { arg 6; simp (disch := omega) [row, RF.pv, RF.cells, h1, h2, h3, h4] }); refine zaf (c1) rfl ?_; (conv => { arg 5; simp (disch := omega) [row, RF.pv, RF.cells, h1, h2, h3, h4] })))) | (refine zab rfl ?_ ?_; (focus (simp; done))))); with_reducible refine zad ?_; (first | refine ⟨rfl, ?_⟩ | refine ⟨by simp [quietB], by simp [quietU], ?_⟩ | skip)) | (refine WL.cond ?_; (conv => { arg 1; simp (disch := omega) [row, RF.pv, RF.cells, h1, h2, h3, h4] }); with_reducible (first | refine zaj ?_ | refine zak ?_ | refine zag (by omega) ?_ | refine zah (by omega) ?_))))
          refine ⟨[], ?_⟩
          simp (disch := omega) [h1, h2, h3, h4]
        · refine CallOk.of_wl Tryz.func20 rfl rfl rfl (Nat.le_of_ble_eq_true rfl) ?_
          (repeat (first | with_reducible (first | refine WL.seq ?_ | refine WL.skip ?_ | refine WL.label ?_ | refine WL.block ?_ | refine WL.scope ?_ | refine WL.nilS ?_ | refine WL.reS ?_ | refine WL.exS ?_ | refine WL.nilB ?_ | refine WL.nilT ?_ | refine WL.exit ?_ | refine WL.ret ?_ | refine WL.exT ?_ | refine WL.exB ?_ | refine WL.exN rfl ?_ | refine WL.reT ?_ | refine WL.reB ?_) | ((first | refine WL.reg rfl ?_ | refine WL.regT zai rfl ?_); (conv => { arg 3; simp [prep, prep1] }); (repeat (first | (refine zae ?_ ?_; (focus (simp; done)); (conv => { arg 4; simp (disch := omega) [row, RF.pv, RF.cells, h1, h2, h3, h4] }); (first | (first | refine zaa ?_ | (refine zac ?_; (conv => { arg 5; simp }))) | (refine zal true rfl rfl ⟨_, Tryz.func28, rfl, rfl⟩ ?_; (conv => { arg 6; simp (disch := omega) [row, RF.pv, RF.cells, h1, h2, h3, h4] }); refine zaf (c1) rfl ?_; (conv => { arg 5; simp (disch := omega) [row, RF.pv, RF.cells, h1, h2, h3, h4] })))) | (refine zab rfl ?_ ?_; (focus (simp; done))))); with_reducible refine zad ?_; (first | refine ⟨rfl, ?_⟩ | refine ⟨by simp [quietB], by simp [quietU], ?_⟩ | skip)) | (refine WL.cond ?_; (conv => { arg 1; simp (disch := omega) [row, RF.pv, RF.cells, h1, h2, h3, h4] }); with_reducible (first | refine zaj ?_ | refine zak ?_ | refine zag (by omega) ?_ | refine zah (by omega) ?_))))
          refine ⟨[], ?_⟩
          simp (disch := omega) [h1, h2, h3, h4]
      · refine CallOk.of_wl Tryz.func20 rfl rfl rfl (Nat.le_of_ble_eq_true rfl) ?_
        (repeat (first | with_reducible (first | refine WL.seq ?_ | refine WL.skip ?_ | refine WL.label ?_ | refine WL.block ?_ | refine WL.scope ?_ | refine WL.nilS ?_ | refine WL.reS ?_ | refine WL.exS ?_ | refine WL.nilB ?_ | refine WL.nilT ?_ | refine WL.exit ?_ | refine WL.ret ?_ | refine WL.exT ?_ | refine WL.exB ?_ | refine WL.exN rfl ?_ | refine WL.reT ?_ | refine WL.reB ?_) | ((first | refine WL.reg rfl ?_ | refine WL.regT zai rfl ?_); (conv => { arg 3; simp [prep, prep1] }); (repeat (first | (refine zae ?_ ?_; (focus (simp; done)); (conv => { arg 4; simp (disch := omega) [row, RF.pv, RF.cells, h1, h2, h3] }); (first | (first | refine zaa ?_ | (refine zac ?_; (conv => { arg 5; simp }))) | (refine zal true rfl rfl ⟨_, Tryz.func28, rfl, rfl⟩ ?_; (conv => { arg 6; simp (disch := omega) [row, RF.pv, RF.cells, h1, h2, h3] }); refine zaf (c1) rfl ?_; (conv => { arg 5; simp (disch := omega) [row, RF.pv, RF.cells, h1, h2, h3] })))) | (refine zab rfl ?_ ?_; (focus (simp; done))))); with_reducible refine zad ?_; (first | refine ⟨rfl, ?_⟩ | refine ⟨by simp [quietB], by simp [quietU], ?_⟩ | skip)) | (refine WL.cond ?_; (conv => { arg 1; simp (disch := omega) [row, RF.pv, RF.cells, h1, h2, h3] }); with_reducible (first | refine zaj ?_ | refine zak ?_ | refine zag (by omega) ?_ | refine zah (by omega) ?_))))
        refine ⟨[], ?_⟩
        simp (disch := omega) [h1, h2, h3]
    · refine CallOk.of_wl Tryz.func20 rfl rfl rfl (Nat.le_of_ble_eq_true rfl) ?_
      (repeat (first | with_reducible (first | refine WL.seq ?_ | refine WL.skip ?_ | refine WL.label ?_ | refine WL.block ?_ | refine WL.scope ?_ | refine WL.nilS ?_ | refine WL.reS ?_ | refine WL.exS ?_ | refine WL.nilB ?_ | refine WL.nilT ?_ | refine WL.exit ?_ | refine WL.ret ?_ | refine WL.exT ?_ | refine WL.exB ?_ | refine WL.exN rfl ?_ | refine WL.reT ?_ | refine WL.reB ?_) | ((first | refine WL.reg rfl ?_ | refine WL.regT zai rfl ?_); (conv => { arg 3; simp [prep, prep1] }); (repeat (first | (refine zae ?_ ?_; (focus (simp; done)); (conv => { arg 4; simp (disch := omega) [row, RF.pv, RF.cells, h1, h2] }); (first | (first | refine zaa ?_ | (refine zac ?_; (conv => { arg 5; simp }))) | (refine zal true rfl rfl ⟨_, Tryz.func28, rfl, rfl⟩ ?_; (conv => { arg 6; simp (disch := omega) [row, RF.pv, RF.cells, h1, h2] }); refine zaf (c1) rfl ?_; (conv => { arg 5; simp (disch := omega) [row, RF.pv, RF.cells, h1, h2] })))) | (refine zab rfl ?_ ?_; (focus (simp; done))))); with_reducible refine zad ?_; (first | refine ⟨rfl, ?_⟩ | refine ⟨by simp [quietB], by simp [quietU], ?_⟩ | skip)) | (refine WL.cond ?_; (conv => { arg 1; simp (disch := omega) [row, RF.pv, RF.cells, h1, h2] }); with_reducible (first | refine zaj ?_ | refine zak ?_ | refine zag (by omega) ?_ | refine zah (by omega) ?_))))
      refine ⟨[], ?_⟩
      simp (disch := omega) [h1, h2]
  · refine CallOk.of_wl Tryz.func20 rfl rfl rfl (Nat.le_of_ble_eq_true rfl) ?_
    (repeat (first | with_reducible (first | refine WL.seq ?_ | refine WL.skip ?_ | refine WL.label ?_ | refine WL.block ?_ | refine WL.scope ?_ | refine WL.nilS ?_ | refine WL.reS ?_ | refine WL.exS ?_ | refine WL.nilB ?_ | refine WL.nilT ?_ | refine WL.exit ?_ | refine WL.ret ?_ | refine WL.exT ?_ | refine WL.exB ?_ | refine WL.exN rfl ?_ | refine WL.reT ?_ | refine WL.reB ?_) | ((first | refine WL.reg rfl ?_ | refine WL.regT zai rfl ?_); (conv => { arg 3; simp [prep, prep1] }); (repeat (first | (refine zae ?_ ?_; (focus (simp; done)); (conv => { arg 4; simp (disch := omega) [row, RF.pv, RF.cells, h1] }); (first | (first | refine zaa ?_ | (refine zac ?_; (conv => { arg 5; simp }))) | (refine zal true rfl rfl ⟨_, Tryz.func28, rfl, rfl⟩ ?_; (conv => { arg 6; simp (disch := omega) [row, RF.pv, RF.cells, h1] }); refine zaf (c1) rfl ?_; (conv => { arg 5; simp (disch := omega) [row, RF.pv, RF.cells, h1] })))) | (refine zab rfl ?_ ?_; (focus (simp; done))))); with_reducible refine zad ?_; (first | refine ⟨rfl, ?_⟩ | refine ⟨by simp [quietB], by simp [quietU], ?_⟩ | skip)) | (refine WL.cond ?_; (conv => { arg 1; simp (disch := omega) [row, RF.pv, RF.cells, h1] }); with_reducible (first | refine zaj ?_ | refine zak ?_ | refine zag (by omega) ?_ | refine zah (by omega) ?_))))
    refine ⟨[], ?_⟩
    simp (disch := omega) [h1]
theorem znj (c : Spn) : CallOk Tryz.prog 65 [c.pv] [] (.rd [row c.y0, row c.y1, row c.f0, row c.f1] 4) [] := by
  obtain ⟨t, h, y0, y1, f0, f1⟩ := c
  simp only [Spn.pv, Spn.cells] at *
  refine CallOk.of_wl Tryz.func65 rfl rfl rfl (Nat.le_of_ble_eq_true rfl) ?_
  (repeat (first | with_reducible (first | refine WL.seq ?_ | refine WL.skip ?_ | refine WL.label ?_ | refine WL.block ?_ | refine WL.scope ?_ | refine WL.nilS ?_ | refine WL.reS ?_ | refine WL.exS ?_ | refine WL.nilB ?_ | refine WL.nilT ?_ | refine WL.exit ?_ | refine WL.ret ?_ | refine WL.exT ?_ | refine WL.exB ?_ | refine WL.exN rfl ?_ | refine WL.reT ?_ | refine WL.reB ?_) | ((first | refine WL.reg rfl ?_ | refine WL.regT zai rfl ?_); (conv => { arg 3; simp [prep, prep1] }); (repeat (first | (refine zae ?_ ?_; (focus (simp; done)); (conv => { arg 4; simp (disch := omega) [row] }); (first | (first | refine zaa ?_ | (refine zac ?_; (conv => { arg 5; simp }))))) | (refine zab rfl ?_ ?_; (focus (simp; done))))); with_reducible refine zad ?_; (first | refine ⟨rfl, ?_⟩ | refine ⟨by simp [quietB], by simp [quietU], ?_⟩ | skip)) | (refine WL.cond ?_; (conv => { arg 1; simp (disch := omega) [row] }); with_reducible (first | refine zaj ?_ | refine zak ?_ | refine zag (by omega) ?_ | refine zah (by omega) ?_))))
  refine ⟨[], ?_⟩
  simp (disch := omega) [row]
def Spn.x (c : Spn) (s : Rat) : Rat := (s - c.t.q) / c.h.q
theorem znk (c : Spn) (s : RF) (hs : s.ok 1073741824) (ht : c.t.ok 1073741824) (hh : c.h.ok 1073741824) : CallOk Tryz.prog 61 [c.pv, s.pv] [] (frQ (c.x s.q)) [] := by
  have c1 := rfSub (hs.mono (by decide)) (ht.mono (by decide))
  have h1 := zcp s.q c.t.q
  have h2 := zen (s := s.neg) hs.wn hs.wd
  have h3 := zen (s := c.t.neg) ht.wn ht.wd
  have l1 := hs.ln
  have l2 := hs.ld
  have l3 := ht.ln
  have l4 := ht.ld
  have c2 := zrr (a := RF.of (s.q - c.t.q)) (b := c.h) (RF.of_ok (by unfold RF.q at *; omega)) (hh.mono (by decide))
  rw [RF.of_q] at c2
  unfold Spn.x
  generalize (s.q - c.t.q) / c.h.q = x at *
  generalize s.q - c.t.q = y at *
  generalize decide (c.h.q ≠ 0) = b at *
  clear h1 h2 h3 l1 l2 l3 l4 hs ht hh
  obtain ⟨t, h, y0, y1, f0, f1⟩ := c
  simp only [Spn.pv, Spn.cells] at *
  refine CallOk.of_wl Tryz.func61 rfl rfl rfl (Nat.le_of_ble_eq_true rfl) ?_
  (repeat (first | with_reducible (first | refine WL.seq ?_ | refine WL.skip ?_ | refine WL.label ?_ | refine WL.block ?_ | refine WL.scope ?_ | refine WL.nilS ?_ | refine WL.reS ?_ | refine WL.exS ?_ | refine WL.nilB ?_ | refine WL.nilT ?_ | refine WL.exit ?_ | refine WL.ret ?_ | refine WL.exT ?_ | refine WL.exB ?_ | refine WL.exN rfl ?_ | refine WL.reT ?_ | refine WL.reB ?_) | ((first | refine WL.reg rfl ?_ | refine WL.regT zai rfl ?_); (conv => { arg 3; simp [prep, prep1] }); (repeat (first | (refine zae ?_ ?_; (focus (simp; done)); (conv => { arg 4; simp (disch := omega) [row, RF.pv, RF.cells, RF.of, frQ, fr] }); (first | (first | refine zaa ?_ | (refine zac ?_; (conv => { arg 5; simp }))) | ((first | refine zal true rfl rfl ⟨_, Tryz.func107, rfl, rfl⟩ ?_ | refine zal true rfl rfl ⟨_, Tryz.func66, rfl, rfl⟩ ?_); (conv => { arg 6; simp (disch := omega) [row, RF.pv, RF.cells, RF.of, frQ, fr] }); (first | refine zaf (c1) rfl ?_ | refine zaf (c2) rfl ?_); (conv => { arg 5; simp (disch := omega) [row, RF.pv, RF.cells, RF.of, frQ, fr] })))) | (refine zab rfl ?_ ?_; (focus (simp; done))))); with_reducible refine zad ?_; (first | refine ⟨rfl, ?_⟩ | refine ⟨by simp [quietB], by simp [quietU], ?_⟩ | skip)) | (refine WL.cond ?_; (conv => { arg 1; simp (disch := omega) [row, RF.pv, RF.cells, RF.of, frQ, fr] }); with_reducible (first | refine zaj ?_ | refine zak ?_ | refine zag (by omega) ?_ | refine zah (by omega) ?_))))
  refine ⟨[], ?_⟩
  simp (disch := omega) [frQ, fr]
theorem drop3 {P D : List PV} {k : Nat} (a b c : PV) (h : P.length = k) : (P ++ a :: b :: c :: D).drop (k + 3) = D := by
  subst h
  rw [List.drop_append, Nat.add_sub_cancel_left, List.drop_of_length_le (by omega)]; rfl
def rawZ (n : Nat) : List PV := (List.replicate n [PV.bool false, PV.rd [] 0, PV.rd [] 0]).flatten
theorem rawZ_len (n : Nat) : (rawZ n).length = n * 3 := by simp [rawZ]
theorem rawZ_succ (n : Nat) : rawZ (n + 1) = .bool false :: .rd [] 0 :: .rd [] 0 :: rawZ n := by simp [rawZ, List.replicate_succ]
def zeroQ (n : Nat) : List Rat := List.replicate n 0
theorem rowZeroO (n : Nat) (h : n ≤ 300) : CallOk Tryz.prog 53 [.int .i64 n] [] (.sl ⟨0, 0, 0⟩ 0 0 n 3) [⟨0, true, true, rowC ((zeroQ n).map RF.of)⟩] := by
  have c1 := zeo 0 (by omega)
  rw [show ((0 : Int) : Rat) = 0 from rfl] at c1
  have q1 : mn2 (mx2 (n : Int) 0) 300 = (n : Int) := by unfold mn2 mx2; split <;> split <;> omega
  refine CallOk.of_wl Tryz.func53 rfl rfl rfl (Nat.le_of_ble_eq_true rfl) ?_
  (repeat (first | with_reducible (first | refine WL.seq ?_ | refine WL.skip ?_ | refine WL.label ?_ | refine WL.block ?_ | refine WL.scope ?_ | refine WL.nilS ?_ | refine WL.reS ?_ | refine WL.exS ?_ | refine WL.nilB ?_ | refine WL.nilT ?_ | refine WL.exit ?_ | refine WL.ret ?_ | refine WL.exT ?_ | refine WL.exB ?_ | refine WL.exN rfl ?_ | refine WL.reT ?_ | refine WL.reB ?_) | ((first | refine WL.reg rfl ?_ | refine WL.regT zai rfl ?_); (conv => { arg 3; simp [prep, prep1] }); (repeat (first | (refine zae ?_ ?_; (focus (simp; done)); (conv => { arg 4; simp (disch := omega) [q1] }); (first | (first | refine zaa ?_ | (refine zac ?_; (conv => { arg 5; simp }))))) | (refine zab rfl ?_ ?_; (focus (simp; done))))); with_reducible refine zad ?_; (first | refine ⟨rfl, ?_⟩ | refine ⟨by simp [quietB], by simp [quietU], ?_⟩ | skip)) | (refine WL.cond ?_; (conv => { arg 1; simp (disch := omega) [q1] }); with_reducible (first | refine zaj ?_ | refine zak ?_ | refine zag (by omega) ?_ | refine zah (by omega) ?_))))
  refine WL.loop (fun m s => ∃ i : Nat, m = n - i ∧ i ≤ n ∧ s.frame 3 = .sl ⟨9, 0, 0⟩ 0 0 n 3 ∧ s.frame 10 = .int .i64 n ∧ s.frame 11 = .int .i64 i ∧ s.store ⟨9, 0, 0⟩ = some ⟨0, true, true, rowC ((zeroQ i).map RF.of) ++ rawZ (n - i)⟩) n ?_ ?_
  · exact ⟨0, by omega, by omega, by simp, by simp, by simp, by simp [zeroQ, rowC, rawZ]⟩
  rintro m ⟨f, σ, g⟩ ⟨i, rfl, hi, h3, h10, h11, hs⟩
  simp only at h3 h10 h11 hs
  have hlen := zap ((zeroQ i).map RF.of)
  simp only [zeroQ, List.length_map, List.length_replicate] at hlen
  by_cases hi' : i < n
  · obtain ⟨k, hk⟩ : ∃ k, n - i = k + 1 := ⟨n - i - 1, by omega⟩
    rw [hk, rawZ_succ] at hs
    have hz : rowC ((zeroQ (i + 1)).map RF.of) = rowC ((zeroQ i).map RF.of) ++ [.bool false, .rd (ws (nw (0 : Rat).num.natAbs)) (nw (0 : Rat).num.natAbs).length, .rd (ws (nw (0 : Rat).den)) (nw (0 : Rat).den).length] := by
      simp only [zeroQ, List.replicate_succ', List.map_append, zcm]; rfl
    have hp := drop3 (P := rowC ((zeroQ i).map RF.of)) (D := rawZ k) (.bool false) (.rd [] 0) (.rd [] 0) (k := i * 3) (by simp only [zeroQ]; exact hlen)
    have hd : decide ((0 : Rat).num < 0) = false := rfl
    have hl2 : ((rowC ((zeroQ i).map RF.of)).length) = i * 3 := by simp only [zeroQ]; exact hlen
    have hl3 := rawZ_len k
    unfold frQ fr at c1
    rw [hd] at c1
    generalize (nw (0 : Rat).num.natAbs) = N at *
    generalize (nw (0 : Rat).den) = D at *
    generalize rowC ((zeroQ i).map RF.of) = A at *
    generalize hA1 : rowC ((zeroQ (i + 1)).map RF.of) = A1 at *
    (repeat (first | with_reducible (first | refine WL.seq ?_ | refine WL.skip ?_ | refine WL.label ?_ | refine WL.block ?_ | refine WL.scope ?_ | refine WL.nilS ?_ | refine WL.reS ?_ | refine WL.exS ?_ | refine WL.nilB ?_ | refine WL.nilT ?_ | refine WL.exit ?_ | refine WL.ret ?_ | refine WL.exT ?_ | refine WL.exB ?_ | refine WL.exN rfl ?_ | refine WL.reT ?_ | refine WL.reB ?_) | ((first | refine WL.reg rfl ?_ | refine WL.regT zai rfl ?_); (conv => { arg 3; simp [prep, prep1] }); (repeat (first | (refine zae ?_ ?_; (focus (simp; done)); (conv => { arg 4; simp (disch := omega) [h10, h11, hi', h3, hs, hl2, hl3, hp] }); (first | (first | refine zaa ?_ | (refine zac ?_; (conv => { arg 5; simp }))) | (refine zal true rfl rfl ⟨_, Tryz.func60, rfl, rfl⟩ ?_; (conv => { arg 6; simp (disch := omega) [h10, h11, hi', h3, hs, hl2, hl3, hp] }); refine zaf (c1) rfl ?_; (conv => { arg 5; simp (disch := omega) [h10, h11, hi', h3, hs, hl2, hl3, hp] })))) | (refine zab rfl ?_ ?_; (focus (simp; done))))); with_reducible refine zad ?_; (first | refine ⟨rfl, ?_⟩ | refine ⟨by simp [quietB], by simp [quietU], ?_⟩ | skip)) | (refine WL.cond ?_; (conv => { arg 1; simp (disch := omega) [h10, h11, hi', h3, hs, hl2, hl3, hp] }); with_reducible (first | refine zaj ?_ | refine zak ?_ | refine zag (by omega) ?_ | refine zah (by omega) ?_))))
    exact ⟨n - (i + 1), by omega, i + 1, rfl, by omega, by simp [h3], by simp [h10], by simp, by
      have : n - (i + 1) = k := by omega
      simp [this, hA1, hz]⟩
  · have hia : i = n := by omega
    subst hia
    rw [Nat.sub_self] at hs
    have : rawZ 0 = [] := rfl
    rw [this, List.append_nil] at hs
    (repeat (first | with_reducible (first | refine WL.seq ?_ | refine WL.skip ?_ | refine WL.label ?_ | refine WL.block ?_ | refine WL.scope ?_ | refine WL.nilS ?_ | refine WL.reS ?_ | refine WL.exS ?_ | refine WL.nilB ?_ | refine WL.nilT ?_ | refine WL.exit ?_ | refine WL.ret ?_ | refine WL.exT ?_ | refine WL.exB ?_ | refine WL.exN rfl ?_ | refine WL.reT ?_ | refine WL.reB ?_) | ((first | refine WL.reg rfl ?_ | refine WL.regT zai rfl ?_); (conv => { arg 3; simp [prep, prep1] }); (repeat (first | (refine zae ?_ ?_; (focus (simp; done)); (conv => { arg 4; simp (disch := omega) [h10, h11, h3, hs] }); (first | (first | refine zaa ?_ | (refine zac ?_; (conv => { arg 5; simp }))))) | (refine zab rfl ?_ ?_; (focus (simp; done))))); with_reducible refine zad ?_; (first | refine ⟨rfl, ?_⟩ | refine ⟨by simp [quietB], by simp [quietU], ?_⟩ | skip)) | (refine WL.cond ?_; (conv => { arg 1; simp (disch := omega) [h10, h11, h3, hs] }); with_reducible (first | refine zaj ?_ | refine zak ?_ | refine zag (by omega) ?_ | refine zah (by omega) ?_))))
    refine ⟨[⟨9, 0, 0⟩], ?_⟩
    simp (disch := omega) [hs, idx]
def addRow (c : Rat) (o x : List Rat) : List Rat := List.zipWith (fun u v => u + c * v) o x
def mixQ (n : Nat) (l : List (Rat × List Rat)) : List Rat := l.foldl (fun o p => addRow p.1 o p.2) (zeroQ n)
theorem addRow_len (c : Rat) (o x : List Rat) (h : x.length = o.length) : (addRow c o x).length = o.length := by simp [addRow]; omega
theorem addRow_zero (o x : List Rat) (h : x.length = o.length) : addRow 0 o x = o := by
  unfold addRow
  apply List.ext_getElem (by simp; omega)
  intro i h1 h2
  simp [Rat.zero_mul, Rat.add_zero]
theorem addRow_at (c : Rat) (o x : List Rat) (i : Nat) (h1 : i < o.length) (h2 : i < x.length) : (addRow c o x).take (i + 1) = (addRow c o x).take i ++ [o[i]'h1 + c * x[i]'h2] := by
  rw [List.take_succ_eq_append_getElem (by simp [addRow]; omega)]
  simp [addRow]
theorem mix_snoc (n : Nat) (l : List (Rat × List Rat)) (p : Rat × List Rat) : mixQ n (l ++ [p]) = addRow p.1 (mixQ n l) p.2 := by simp [mixQ]
theorem rowQ_set {l : List Rat} {i : Nat} (q : Rat) (h : i < l.length) (b : Bool) (N D : PV) (hb : (RF.of q).cells = [.bool b, N, D]) :
    (rowC (l.map RF.of)).take (i * 3) ++ .bool b :: N :: D :: (rowC (l.map RF.of)).drop (i * 3 + 3) = rowC ((l.set i q).map RF.of) := by
  have := rowC_set (l := l.map RF.of) (i := i) (RF.of q) (by simpa using h)
  rw [hb] at this
  rw [List.map_set, ← this]
  simp
theorem map_take_drop_set (a o : List Rat) (i : Nat) (x : Rat) (h : i < o.length) (ha : a.length = o.length) (hx : a.take (i + 1) = a.take i ++ [x]) : (a.take i ++ o.drop i).set i x = a.take (i + 1) ++ o.drop (i + 1) := by
  have hl : (a.take i).length = i := by simp; omega
  have e := List.drop_eq_getElem_cons h
  rw [hx, e, List.set_append, if_neg (by omega), hl, Nat.sub_self, List.set_cons_zero, List.append_assoc]
  rfl
theorem zev : szQ 0 ≤ 1 := by have := zda 0 (by decide); simpa using this
set_option maxHeartbeats 2000000 in
theorem zqv (cs : List RF) (ls : List (List RF)) (n K : Nat) (hcl : cs.length = ls.length) (hn : n ≤ 300) (hln : ∀ x ∈ ls, x.length = n) (hc : ∀ x ∈ cs, x.ok K) (hx : ∀ l ∈ ls, ∀ x ∈ l, x.ok K) (hK : 1 ≤ K) (hs : (ls.length + 1) * (2 * K + 2) ≤ 1073741824) :
    CallOk Tryz.prog 47 [row cs, .rd (ls.map row) ls.length, .int .i64 n] [] (.tup [rowQ (mixQ n ((qs cs).zip (ls.map qs))), .bool true]) [] := by
  have hKs : K ≤ 1073741824 := by
    have : 1 * (2 * K + 2) ≤ (ls.length + 1) * (2 * K + 2) := Nat.mul_le_mul_right _ (by omega)
    omega
  have hms : ls.length ≤ 1073741824 := by
    have : (ls.length + 1) * 1 ≤ (ls.length + 1) * (2 * K + 2) := Nat.mul_le_mul_left _ (by omega)
    omega
  have hI : ((cs.length : Nat) : Int) = ls.length := by omega
  have hlc := zap cs
  have hnI : (n : Int) ≤ 300 := by omega
  have hn0 : ¬ (n : Int) < 0 := by omega
  have hn3 : ¬ (300 : Int) < (n : Int) := by omega
  have c0 := rowZeroO n hn
  refine CallOk.of_wl Tryz.func47 rfl rfl rfl (Nat.le_of_ble_eq_true rfl) ?_
  (repeat (first | with_reducible (first | refine WL.seq ?_ | refine WL.skip ?_ | refine WL.label ?_ | refine WL.block ?_ | refine WL.scope ?_ | refine WL.nilS ?_ | refine WL.reS ?_ | refine WL.exS ?_ | refine WL.nilB ?_ | refine WL.nilT ?_ | refine WL.exit ?_ | refine WL.ret ?_ | refine WL.exT ?_ | refine WL.exB ?_ | refine WL.exN rfl ?_ | refine WL.reT ?_ | refine WL.reB ?_) | ((first | refine WL.reg rfl ?_ | refine WL.regT zai rfl ?_); (conv => { arg 3; simp [prep, prep1] }); (repeat (first | (refine zae ?_ ?_; (focus (simp; done)); (conv => { arg 4; simp (disch := omega) [row, hI, hn0, hn3] }); (first | (first | refine zaa ?_ | (refine zac ?_; (conv => { arg 5; simp }))))) | (refine zab rfl ?_ ?_; (focus (simp; done))))); with_reducible refine zad ?_; (first | refine ⟨rfl, ?_⟩ | refine ⟨by simp [quietB], by simp [quietU], ?_⟩ | skip)) | (refine WL.cond ?_; (conv => { arg 1; simp (disch := omega) [row, hI, hn0, hn3] }); with_reducible (first | refine zaj ?_ | refine zak ?_ | refine zag (by omega) ?_ | refine zah (by omega) ?_))))
  refine WL.loop (fun m s => ∃ i : Nat, m = ls.length - i ∧ i ≤ ls.length ∧ s.frame 0 = row cs ∧ s.frame 1 = .rd (ls.map row) ls.length ∧ s.frame 2 = .int .i64 n ∧ s.frame 28 = .rd (ls.map row) ls.length ∧ s.frame 29 = .int .i64 ls.length ∧ s.frame 30 = .int .i64 i) ls.length ?_ ?_
  · exact ⟨0, by omega, by omega, by simp [row, hI], by simp [row], by simp, by simp [row], by simp, by simp⟩
  rintro m ⟨f, σ, g⟩ ⟨i, rfl, hi, h0, h1, h2, h28, h29, h30⟩
  simp only at h0 h1 h2 h28 h29 h30
  by_cases hi' : i < ls.length
  · have rl : (ls.map row)[i]? = some (.rd (rowC (ls[i]'hi')) n) := by
      have : (ls[i]'hi').length = n := hln _ (List.getElem_mem hi')
      simp [hi', row, this]
    (repeat (first | with_reducible (first | refine WL.seq ?_ | refine WL.skip ?_ | refine WL.label ?_ | refine WL.block ?_ | refine WL.scope ?_ | refine WL.nilS ?_ | refine WL.reS ?_ | refine WL.exS ?_ | refine WL.nilB ?_ | refine WL.nilT ?_ | refine WL.exit ?_ | refine WL.ret ?_ | refine WL.exT ?_ | refine WL.exB ?_ | refine WL.exN rfl ?_ | refine WL.reT ?_ | refine WL.reB ?_) | ((first | refine WL.reg rfl ?_ | refine WL.regT zai rfl ?_); (conv => { arg 3; simp [prep, prep1] }); (repeat (first | (refine zae ?_ ?_; (focus (simp; done)); (conv => { arg 4; simp (disch := omega) [h28, h29, h30, hi', rl, h2] }); (first | (first | refine zaa ?_ | (refine zac ?_; (conv => { arg 5; simp }))))) | (refine zab rfl ?_ ?_; (focus (simp; done))))); with_reducible refine zad ?_; (first | refine ⟨rfl, ?_⟩ | refine ⟨by simp [quietB], by simp [quietU], ?_⟩ | skip)) | (refine WL.cond ?_; (conv => { arg 1; simp (disch := omega) [h28, h29, h30, hi', rl, h2] }); with_reducible (first | refine zaj ?_ | refine zak ?_ | refine zag (by omega) ?_ | refine zah (by omega) ?_))))
    exact ⟨ls.length - (i + 1), by omega, i + 1, rfl, by omega, by simp [h0], by simp [h1], by simp [h2], by simp [h28], by simp [h29], by simp⟩
  (repeat (first | with_reducible (first | refine WL.seq ?_ | refine WL.skip ?_ | refine WL.label ?_ | refine WL.block ?_ | refine WL.scope ?_ | refine WL.nilS ?_ | refine WL.reS ?_ | refine WL.exS ?_ | refine WL.nilB ?_ | refine WL.nilT ?_ | refine WL.exit ?_ | refine WL.ret ?_ | refine WL.exT ?_ | refine WL.exB ?_ | refine WL.exN rfl ?_ | refine WL.reT ?_ | refine WL.reB ?_) | ((first | refine WL.reg rfl ?_ | refine WL.regT zai rfl ?_); (conv => { arg 3; simp [prep, prep1] }); (repeat (first | (refine zae ?_ ?_; (focus (simp; done)); (conv => { arg 4; simp (disch := omega) [h28, h29, h30, hi', h2, h1, row] }); (first | (first | refine zaa ?_ | (refine zac ?_; (conv => { arg 5; simp }))) | (refine zal true rfl rfl ⟨_, Tryz.func53, rfl, rfl⟩ ?_; (conv => { arg 6; simp (disch := omega) [h28, h29, h30, hi', h2, h1, row] }); refine zaf (c0) rfl ?_; (conv => { arg 5; simp (disch := omega) [h28, h29, h30, hi', h2, h1, row] })))) | (refine zab rfl ?_ ?_; (focus (simp; done))))); with_reducible refine zad ?_; (first | refine ⟨rfl, ?_⟩ | refine ⟨by simp [quietB], by simp [quietU], ?_⟩ | skip)) | (refine WL.cond ?_; (conv => { arg 1; simp (disch := omega) [h28, h29, h30, hi', h2, h1, row] }); with_reducible (first | refine zaj ?_ | refine zak ?_ | refine zag (by omega) ?_ | refine zah (by omega) ?_))))
  have htl : ∀ k, k < ls.length → (((qs cs).zip (ls.map qs)).take (k + 1)) = (((qs cs).zip (ls.map qs)).take k) ++ [((qs cs).getD k 0, ((ls.map qs).getD k []))] := by
    intro k hk
    have e1 : k < ((qs cs).zip (ls.map qs)).length := by simp [qs]; omega
    rw [List.take_succ_eq_append_getElem e1]
    simp [qs, List.getD_eq_getElem?_getD, hk, show k < cs.length by omega]
  generalize hz : (qs cs).zip (ls.map qs) = Z at *
  refine WL.loop (fun m s => ∃ (k : Nat) (o : List Rat), m = ls.length - k ∧ k ≤ ls.length ∧ s.frame 0 = row cs ∧ s.frame 10 = .sl ⟨40, g 40, 0⟩ 0 0 n 3 ∧ s.frame 41 = .rd (ls.map row) ls.length ∧ s.frame 42 = .int .i64 ls.length ∧ s.frame 43 = .int .i64 k ∧
      s.store ⟨40, g 40, 0⟩ = some ⟨0, true, true, rowC (o.map RF.of)⟩ ∧ o.length = n ∧ o = mixQ n (Z.take k) ∧ ∀ x ∈ o, szQ x ≤ k * (2 * K + 2) + 1) ls.length ?_ ?_
  · refine ⟨0, zeroQ n, by omega, by omega, by simp [h0, row], by simp, by simp, by simp, by simp, by simp, by simp [zeroQ], by simp [mixQ], ?_⟩
    intro x hx
    have := (List.mem_replicate.1 hx).2
    subst this
    have := zev
    omega
  clear h0 h1 h2 h28 h29 h30 hi' hi
  rintro m ⟨f, σ, g2⟩ ⟨k, o, rfl, hk, h0, h10, h41, h42, h43, hst, hol, ho, hos⟩
  simp only at h0 h10 h41 h42 h43 hst
  by_cases hk' : k < ls.length
  · have hkc : k < cs.length := by omega
    have rl : (ls.map row)[k]? = some (.rd (rowC (ls[k]'hk')) n) := by
      have : (ls[k]'hk').length = n := hln _ (List.getElem_mem hk')
      simp [hk', row, this]
    have hxl : (ls[k]'hk').length = n := hln _ (List.getElem_mem hk')
    have hxo : ∀ y ∈ ls[k]'hk', y.ok K := hx _ (List.getElem_mem hk')
    have hco : (cs[k]'hkc).ok K := hc _ (List.getElem_mem hkc)
    have rc := zeh hkc
    have hZ := htl k hk'
    have e1 : (qs cs).getD k 0 = (cs[k]'hkc).q := by simp [qs, List.getD_eq_getElem?_getD, hkc]
    have e2 : (ls.map qs).getD k [] = qs (ls[k]'hk') := by simp [List.getD_eq_getElem?_getD, hk']
    rw [e1, e2] at hZ
    have hZ2 : mixQ n (Z.take (k + 1)) = addRow (cs[k]'hkc).q o (qs (ls[k]'hk')) := by rw [hZ, mix_snoc, ← ho]
    generalize cs[k]'hkc = c at *
    generalize ls[k]'hk' = xr at *
    have hlr := zap xr
    rw [hxl] at hlr
    have cS := zqw (hco.mono (show K ≤ 68719476736 by omega))
    have eS := zlk c.q
    have h3c : 3 ≤ (rowC cs).length - k * 3 := by omega
    have hqxl : (qs xr).length = n := by simp [qs, hxl]
    clear hZ e1 e2 ho
    by_cases hc0 : c.q = 0
    · have hsg : sgnQ c.q = 0 := by rw [hc0]; rfl
      have hadd : addRow c.q o (qs xr) = o := by rw [hc0]; exact addRow_zero _ _ (by omega)
      (repeat (first | with_reducible (first | refine WL.seq ?_ | refine WL.skip ?_ | refine WL.label ?_ | refine WL.block ?_ | refine WL.scope ?_ | refine WL.nilS ?_ | refine WL.reS ?_ | refine WL.exS ?_ | refine WL.nilB ?_ | refine WL.nilT ?_ | refine WL.exit ?_ | refine WL.ret ?_ | refine WL.exT ?_ | refine WL.exB ?_ | refine WL.exN rfl ?_ | refine WL.reT ?_ | refine WL.reB ?_) | ((first | refine WL.reg rfl ?_ | refine WL.regT zai rfl ?_); (conv => { arg 3; simp [prep, prep1] }); (repeat (first | (refine zae ?_ ?_; (focus (simp; done)); (conv => { arg 4; simp (disch := omega) [h42, h43, h0, h41, hk', hkc, rl, rc, row, h3c, RF.pv, RF.cells, hsg] }); (first | (first | refine zaa ?_ | (refine zac ?_; (conv => { arg 5; simp }))) | (refine zal true rfl rfl ⟨_, Tryz.func28, rfl, rfl⟩ ?_; (conv => { arg 6; simp (disch := omega) [h42, h43, h0, h41, hk', hkc, rl, rc, row, h3c, RF.pv, RF.cells, hsg] }); refine zaf (cS) rfl ?_; (conv => { arg 5; simp (disch := omega) [h42, h43, h0, h41, hk', hkc, rl, rc, row, h3c, RF.pv, RF.cells, hsg] })))) | (refine zab rfl ?_ ?_; (focus (simp; done))))); with_reducible refine zad ?_; (first | refine ⟨rfl, ?_⟩ | refine ⟨by simp [quietB], by simp [quietU], ?_⟩ | skip)) | (refine WL.cond ?_; (conv => { arg 1; simp (disch := omega) [h42, h43, h0, h41, hk', hkc, rl, rc, row, h3c, RF.pv, RF.cells, hsg] }); with_reducible (first | refine zaj ?_ | refine zak ?_ | refine zag (by omega) ?_ | refine zah (by omega) ?_))))
      exact ⟨ls.length - (k + 1), by omega, k + 1, o, rfl, by omega, by simp [h0], by simp [h10], by simp [h41], by simp [h42], by simp, by simp [hst], hol, by rw [hZ2, hadd], fun x hx => Nat.le_trans (hos x hx) (by rw [Nat.succ_mul k]; omega)⟩
    · have hsg : ¬ sgnQ c.q = 0 := by intro h; rw [h] at eS; simp [hc0] at eS
      have hAl := addRow_len c.q o (qs xr) (by omega)
      (repeat (first | with_reducible (first | refine WL.seq ?_ | refine WL.skip ?_ | refine WL.label ?_ | refine WL.block ?_ | refine WL.scope ?_ | refine WL.nilS ?_ | refine WL.reS ?_ | refine WL.exS ?_ | refine WL.nilB ?_ | refine WL.nilT ?_ | refine WL.exit ?_ | refine WL.ret ?_ | refine WL.exT ?_ | refine WL.exB ?_ | refine WL.exN rfl ?_ | refine WL.reT ?_ | refine WL.reB ?_) | ((first | refine WL.reg rfl ?_ | refine WL.regT zai rfl ?_); (conv => { arg 3; simp [prep, prep1] }); (repeat (first | (refine zae ?_ ?_; (focus (simp; done)); (conv => { arg 4; simp (disch := omega) [h42, h43, h0, h41, hk', hkc, rl, rc, row, h3c, RF.pv, RF.cells, hsg] }); (first | (first | refine zaa ?_ | (refine zac ?_; (conv => { arg 5; simp }))) | (refine zal true rfl rfl ⟨_, Tryz.func28, rfl, rfl⟩ ?_; (conv => { arg 6; simp (disch := omega) [h42, h43, h0, h41, hk', hkc, rl, rc, row, h3c, RF.pv, RF.cells, hsg] }); refine zaf (cS) rfl ?_; (conv => { arg 5; simp (disch := omega) [h42, h43, h0, h41, hk', hkc, rl, rc, row, h3c, RF.pv, RF.cells, hsg] })))) | (refine zab rfl ?_ ?_; (focus (simp; done))))); with_reducible refine zad ?_; (first | refine ⟨rfl, ?_⟩ | refine ⟨by simp [quietB], by simp [quietU], ?_⟩ | skip)) | (refine WL.cond ?_; (conv => { arg 1; simp (disch := omega) [h42, h43, h0, h41, hk', hkc, rl, rc, row, h3c, RF.pv, RF.cells, hsg] }); with_reducible (first | refine zaj ?_ | refine zak ?_ | refine zag (by omega) ?_ | refine zah (by omega) ?_))))
      refine WL.loop (fun m s => ∃ i : Nat, m = n - i ∧ i ≤ n ∧ s.frame 0 = row cs ∧ s.frame 10 = .sl ⟨40, g 40, 0⟩ 0 0 n 3 ∧ s.frame 11 = .int .i64 k ∧ s.frame 41 = .rd (ls.map row) ls.length ∧ s.frame 42 = .int .i64 ls.length ∧ s.frame 43 = .int .i64 k ∧ s.frame 54 = .rd (rowC xr) n ∧ s.frame 55 = .int .i64 n ∧ s.frame 56 = .int .i64 i ∧
          s.store ⟨40, g 40, 0⟩ = some ⟨0, true, true, rowC (((addRow c.q o (qs xr)).take i ++ o.drop i).map RF.of)⟩) n ?_ ?_
      · exact ⟨0, by omega, by omega, by simp [h0, row], by simp [h10], by simp, by simp [h41], by simp [h42], by simp [h43], by simp, by simp, by simp, by simp [hst]⟩
      clear h0 h10 h41 h42 h43 hst
      rintro m ⟨f, σ, g3⟩ ⟨i, rfl, hi, h0, h10, h11, h41, h42, h43, h54, h55, h56, hst⟩
      simp only at h0 h10 h11 h41 h42 h43 h54 h55 h56 hst
      by_cases hin : i < n
      · have hio : i < o.length := by omega
        have hix : i < xr.length := by omega
        have hstep := addRow_at c.q o (qs xr) i hio (by omega)
        have hxq : (qs xr)[i]'(by omega) = (xr[i]'hix).q := by simp [qs]
        rw [hxq] at hstep
        have rx := zeh hix
        have hyo := hxo _ (List.getElem_mem hix)
        have huo := hos _ (List.getElem_mem hio)
        have hpl : ((addRow c.q o (qs xr)).take i).length = i := by simp; omega
        have hcl2 : ((addRow c.q o (qs xr)).take i ++ o.drop i).length = n := by simp; omega
        have ro : ((rowC (((addRow c.q o (qs xr)).take i ++ o.drop i).map RF.of)).drop (i * 3)).take 3 = (RF.of (o[i]'hio)).cells := by
          rw [zdo (by omega), List.getElem_append_right (by omega)]
          simp [hpl]
        have hset := map_take_drop_set (addRow c.q o (qs xr)) o i _ hio hAl hstep
        have hlo := zap (((addRow c.q o (qs xr)).take i ++ o.drop i).map RF.of)
        rw [List.length_map, hcl2] at hlo
        have cM := zrl (hco.mono (show K ≤ 68719476736 by omega)) (hyo.mono (show K ≤ 68719476736 by omega))
        have z1 := zen (s := c.neg) hco.wn hco.wd
        have z2 := zen (s := (xr[i]'hix).neg) hyo.wn hyo.wd
        have z3 := zcz c.q (xr[i]'hix).q
        have l1 := hco.ln
        have l2 := hco.ld
        have l3 := hyo.ln
        have l4 := hyo.ld
        have hkm : k * (2 * K + 2) ≤ (ls.length + 1) * (2 * K + 2) := Nat.mul_le_mul_right _ (by omega)
        have cA := qAdd (p := o[i]'hio) (q := c.q * (xr[i]'hix).q) (by omega) (by unfold RF.q at *; omega)
        have hw := fun b N D hb => rowQ_set (l := (addRow c.q o (qs xr)).take i ++ o.drop i) (i := i) (o[i]'hio + c.q * (xr[i]'hix).q) (by omega) b N D hb
        rw [hset] at hw
        have hw := hw _ _ _ rfl
        clear z1 z2 z3 l1 l2 l3 l4 hkm huo hset hstep hxq
        generalize (addRow c.q o (qs xr)).take i ++ o.drop i = cur at *
        generalize hcur1 : (addRow c.q o (qs xr)).take (i + 1) ++ o.drop (i + 1) = cur1 at *
        generalize o[i]'hio + c.q * (xr[i]'hix).q = w at *
        generalize c.q * (xr[i]'hix).q = cx at *
        generalize o[i]'hio = u at *
        generalize xr[i]'hix = y at *
        have h3x : 3 ≤ (rowC xr).length - i * 3 := by omega
        have h3o : 3 ≤ (rowC (cur.map RF.of)).length - i * 3 := by omega
        (repeat (first | with_reducible (first | refine WL.seq ?_ | refine WL.skip ?_ | refine WL.label ?_ | refine WL.block ?_ | refine WL.scope ?_ | refine WL.nilS ?_ | refine WL.reS ?_ | refine WL.exS ?_ | refine WL.nilB ?_ | refine WL.nilT ?_ | refine WL.exit ?_ | refine WL.ret ?_ | refine WL.exT ?_ | refine WL.exB ?_ | refine WL.exN rfl ?_ | refine WL.reT ?_ | refine WL.reB ?_) | ((first | refine WL.reg rfl ?_ | refine WL.regT zai rfl ?_); (conv => { arg 3; simp [prep, prep1] }); (repeat (first | (refine zae ?_ ?_; (focus (simp; done)); (conv => { arg 4; simp (disch := omega) [h55, h56, hin, h54, rx, hlr, h3x] }); (first | (first | refine zaa ?_ | (refine zac ?_; (conv => { arg 5; simp }))))) | (refine zab rfl ?_ ?_; (focus (simp; done))))); with_reducible refine zad ?_; (first | refine ⟨rfl, ?_⟩ | refine ⟨by simp [quietB], by simp [quietU], ?_⟩ | skip)) | (refine WL.cond ?_; (conv => { arg 1; simp (disch := omega) [h55, h56, hin, h54, rx, hlr, h3x] }); with_reducible (first | refine zaj ?_ | refine zak ?_ | refine zag (by omega) ?_ | refine zah (by omega) ?_))))
        simp only [RF.of, wl] at hw
        (repeat (first | with_reducible (first | refine WL.seq ?_ | refine WL.skip ?_ | refine WL.label ?_ | refine WL.block ?_ | refine WL.scope ?_ | refine WL.nilS ?_ | refine WL.reS ?_ | refine WL.exS ?_ | refine WL.nilB ?_ | refine WL.nilT ?_ | refine WL.exit ?_ | refine WL.ret ?_ | refine WL.exT ?_ | refine WL.exB ?_ | refine WL.exN rfl ?_ | refine WL.reT ?_ | refine WL.reB ?_) | ((first | refine WL.reg rfl ?_ | refine WL.regT zai rfl ?_); (conv => { arg 3; simp [prep, prep1] }); (repeat (first | (refine zae ?_ ?_; (focus (simp; done)); (conv => { arg 4; simp (disch := omega) [h10, h11, h0, row, hst, hin, ro, h3o, hlo, hkc, rc, h3c, RF.cells, RF.of, frQ, fr, hw, h56] }); (first | (first | refine zaa ?_ | (refine zac ?_; (conv => { arg 5; simp }))) | ((first | refine zal true rfl rfl ⟨_, Tryz.func50, rfl, rfl⟩ ?_ | refine zal true rfl rfl ⟨_, Tryz.func29, rfl, rfl⟩ ?_); (conv => { arg 6; simp (disch := omega) [h10, h11, h0, row, hst, hin, ro, h3o, hlo, hkc, rc, h3c, RF.cells, RF.of, frQ, fr, hw, h56] }); (first | refine zaf (cM) rfl ?_ | refine zaf (cA) rfl ?_); (conv => { arg 5; simp (disch := omega) [h10, h11, h0, row, hst, hin, ro, h3o, hlo, hkc, rc, h3c, RF.cells, RF.of, frQ, fr, hw, h56] })))) | (refine zab rfl ?_ ?_; (focus (simp; done))))); with_reducible refine zad ?_; (first | refine ⟨rfl, ?_⟩ | refine ⟨by simp [quietB], by simp [quietU], ?_⟩ | skip)) | (refine WL.cond ?_; (conv => { arg 1; simp (disch := omega) [h10, h11, h0, row, hst, hin, ro, h3o, hlo, hkc, rc, h3c, RF.cells, RF.of, frQ, fr, hw, h56] }); with_reducible (first | refine zaj ?_ | refine zak ?_ | refine zag (by omega) ?_ | refine zah (by omega) ?_))))
        exact ⟨n - (i + 1), by omega, i + 1, rfl, by omega, by simp [h0], by simp [h10], by simp [h11], by simp [h41], by simp [h42], by simp [h43], by simp [h54], by simp [h55], by simp, by rw [hcur1]; simp⟩
      · have hii : i = n := by omega
        subst hii
        have ho2 : (addRow c.q o (qs xr)).take i ++ o.drop i = addRow c.q o (qs xr) := by
          rw [List.take_of_length_le (by omega), List.drop_of_length_le (by omega), List.append_nil]
        rw [ho2] at hst
        (repeat (first | with_reducible (first | refine WL.seq ?_ | refine WL.skip ?_ | refine WL.label ?_ | refine WL.block ?_ | refine WL.scope ?_ | refine WL.nilS ?_ | refine WL.reS ?_ | refine WL.exS ?_ | refine WL.nilB ?_ | refine WL.nilT ?_ | refine WL.exit ?_ | refine WL.ret ?_ | refine WL.exT ?_ | refine WL.exB ?_ | refine WL.exN rfl ?_ | refine WL.reT ?_ | refine WL.reB ?_) | ((first | refine WL.reg rfl ?_ | refine WL.regT zai rfl ?_); (conv => { arg 3; simp [prep, prep1] }); (repeat (first | (refine zae ?_ ?_; (focus (simp; done)); (conv => { arg 4; simp (disch := omega) [h55, h56, h43] }); (first | (first | refine zaa ?_ | (refine zac ?_; (conv => { arg 5; simp }))))) | (refine zab rfl ?_ ?_; (focus (simp; done))))); with_reducible refine zad ?_; (first | refine ⟨rfl, ?_⟩ | refine ⟨by simp [quietB], by simp [quietU], ?_⟩ | skip)) | (refine WL.cond ?_; (conv => { arg 1; simp (disch := omega) [h55, h56, h43] }); with_reducible (first | refine zaj ?_ | refine zak ?_ | refine zag (by omega) ?_ | refine zah (by omega) ?_))))
        refine ⟨ls.length - (k + 1), by omega, k + 1, addRow c.q o (qs xr), rfl, by omega, by simp [h0], by simp [h10], by simp [h41], by simp [h42], by simp, by simp [hst], by omega, hZ2.symm, ?_⟩
        intro v hv
        obtain ⟨j, hj, rfl⟩ := List.getElem_of_mem hv
        have hjo : j < o.length := by omega
        have hjx : j < xr.length := by omega
        have hyo := hxo _ (List.getElem_mem hjx)
        have e : (addRow c.q o (qs xr))[j]'hj = o[j]'hjo + c.q * (xr[j]'hjx).q := by simp [addRow, qs]
        have z0 := hos _ (List.getElem_mem hjo)
        have z1 := zen (s := c.neg) hco.wn hco.wd
        have z2 := zen (s := (xr[j]'hjx).neg) hyo.wn hyo.wd
        have z3 := zcz c.q (xr[j]'hjx).q
        have z4 := zgi (o[j]'hjo) (c.q * (xr[j]'hjx).q)
        have l1 := hco.ln
        have l2 := hco.ld
        have l3 := hyo.ln
        have l4 := hyo.ld
        rw [e, Nat.succ_mul k]
        unfold RF.q at *
        omega
  · have hkk : k = ls.length := by omega
    subst hkk
    have hZl : Z.take ls.length = Z := by
      apply List.take_of_length_le
      rw [← hz]; simp [qs]; omega
    rw [hZl] at ho
    (repeat (first | with_reducible (first | refine WL.seq ?_ | refine WL.skip ?_ | refine WL.label ?_ | refine WL.block ?_ | refine WL.scope ?_ | refine WL.nilS ?_ | refine WL.reS ?_ | refine WL.exS ?_ | refine WL.nilB ?_ | refine WL.nilT ?_ | refine WL.exit ?_ | refine WL.ret ?_ | refine WL.exT ?_ | refine WL.exB ?_ | refine WL.exN rfl ?_ | refine WL.reT ?_ | refine WL.reB ?_) | ((first | refine WL.reg rfl ?_ | refine WL.regT zai rfl ?_); (conv => { arg 3; simp [prep, prep1] }); (repeat (first | (refine zae ?_ ?_; (focus (simp; done)); (conv => { arg 4; simp (disch := omega) [h42, h43, h10, hst] }); (first | (first | refine zaa ?_ | (refine zac ?_; (conv => { arg 5; simp }))))) | (refine zab rfl ?_ ?_; (focus (simp; done))))); with_reducible refine zad ?_; (first | refine ⟨rfl, ?_⟩ | refine ⟨by simp [quietB], by simp [quietU], ?_⟩ | skip)) | (refine WL.cond ?_; (conv => { arg 1; simp (disch := omega) [h42, h43, h10, hst] }); with_reducible (first | refine zaj ?_ | refine zak ?_ | refine zag (by omega) ?_ | refine zah (by omega) ?_))))
    refine ⟨[], ?_⟩
    rw [← ho]
    have hlo := zap (o.map RF.of)
    rw [List.length_map, hol] at hlo
    have htk : (rowC (o.map RF.of)).take (n * 3) = rowC (o.map RF.of) := List.take_of_length_le (by omega)
    simp (disch := omega) [hst, rowQ, row, htk, hol, hlo]
theorem zbr (b0 : Bool) (x0 y0 : List PV) (n0 m0 : Nat) (σ : Id → Option Blk) (d g : Nat) : litE Tryz.prog 31 1 [(0, .agg [.bool b0, .rd x0 n0, .rd y0 m0])] σ d g = some ⟨.sl ⟨d, g, 0⟩ 0 0 1 3, [], [(⟨d, g, 0⟩, ⟨0, true, true, [.bool b0, .rd x0 n0, .rd y0 m0]⟩)], true⟩ := by
  simp
theorem zbx (b0 : Bool) (x0 y0 : List PV) (n0 m0 : Nat) (b1 : Bool) (x1 y1 : List PV) (n1 m1 : Nat) (σ : Id → Option Blk) (d g : Nat) : litE Tryz.prog 31 2 [(0, .agg [.bool b0, .rd x0 n0, .rd y0 m0]), (1, .agg [.bool b1, .rd x1 n1, .rd y1 m1])] σ d g = some ⟨.sl ⟨d, g, 0⟩ 0 0 2 3, [], [(⟨d, g, 0⟩, ⟨0, true, true, [.bool b0, .rd x0 n0, .rd y0 m0, .bool b1, .rd x1 n1, .rd y1 m1]⟩)], true⟩ := by
  simp
theorem zbw (b0 : Bool) (x0 y0 : List PV) (n0 m0 : Nat) (b1 : Bool) (x1 y1 : List PV) (n1 m1 : Nat) (b2 : Bool) (x2 y2 : List PV) (n2 m2 : Nat) (σ : Id → Option Blk) (d g : Nat) : litE Tryz.prog 31 3 [(0, .agg [.bool b0, .rd x0 n0, .rd y0 m0]), (1, .agg [.bool b1, .rd x1 n1, .rd y1 m1]), (2, .agg [.bool b2, .rd x2 n2, .rd y2 m2])] σ d g = some ⟨.sl ⟨d, g, 0⟩ 0 0 3 3, [], [(⟨d, g, 0⟩, ⟨0, true, true, [.bool b0, .rd x0 n0, .rd y0 m0, .bool b1, .rd x1 n1, .rd y1 m1, .bool b2, .rd x2 n2, .rd y2 m2]⟩)], true⟩ := by
  simp
theorem zbv (b0 : Bool) (x0 y0 : List PV) (n0 m0 : Nat) (b1 : Bool) (x1 y1 : List PV) (n1 m1 : Nat) (b2 : Bool) (x2 y2 : List PV) (n2 m2 : Nat) (b3 : Bool) (x3 y3 : List PV) (n3 m3 : Nat) (σ : Id → Option Blk) (d g : Nat) : litE Tryz.prog 31 4 [(0, .agg [.bool b0, .rd x0 n0, .rd y0 m0]), (1, .agg [.bool b1, .rd x1 n1, .rd y1 m1]), (2, .agg [.bool b2, .rd x2 n2, .rd y2 m2]), (3, .agg [.bool b3, .rd x3 n3, .rd y3 m3])] σ d g = some ⟨.sl ⟨d, g, 0⟩ 0 0 4 3, [], [(⟨d, g, 0⟩, ⟨0, true, true, [.bool b0, .rd x0 n0, .rd y0 m0, .bool b1, .rd x1 n1, .rd y1 m1, .bool b2, .rd x2 n2, .rd y2 m2, .bool b3, .rd x3 n3, .rd y3 m3]⟩)], true⟩ := by
  simp
end Go.Proofs.YthgldcflcmlgpaaGreatDoorE
end
section
/- The cubic of a span, at a moment. -/
set_option linter.unusedVariables false
set_option linter.unusedSimpArgs false
namespace Go.Proofs.YthgldcflcmlgpaaGreatDoorE
open Go.RowKit
set_option maxRecDepth 100000
attribute [local simp] List.getElem?_cons_zero List.getElem?_cons_succ List.getElem?_nil wrap_i64 stOf st0 effF effC evalV evalL zfd zcr pv_t pv_c pv_g pv_f ofConst binV binI lenV foldV mx2 mn2 unV convV extractV idxV indexV fieldAddrV fieldV partV sliceV boundsV loadL live storeE appendE srcV litE makeE IntKind.bits copyE boxE allocE flatParts flatCs flatC allParts cellsOf solid leafB fillL frzL buildV fillP placeS eqFl eqCell St.eff St.put wrs callE renP renA renC renI nid newL renB noEff endK endR resA resL resV expP expA expC expN expL expBs expB idx thenQ blockQ wantK if_pos if_neg wrap_u32 zas beqI bneI w32 wl zar Int.natCast_inj effG
attribute [local simp ↓] effG effC evalV evalL pv_t pv_c pv_g pv_f zfd zcr live
def Spn.atQ (c : Spn) (s : Rat) : List Rat :=
  mixQ c.y0.length [(prodQ [1 + (-1) * c.x s, 1 + (-1) * c.x s, 1 + 2 * c.x s], qs c.y0), (prodQ [c.x s, c.x s, 3 + (-2) * c.x s], qs c.y1),
    (prodQ [c.h.q, c.x s, 1 + (-1) * c.x s, 1 + (-1) * c.x s], qs c.f0), (prodQ [c.h.q, c.x s, c.x s, -(1 + (-1) * c.x s)], qs c.f1)]
structure Spn.ok (c : Spn) (K : Nat) : Prop where
  t : c.t.ok K
  h : c.h.ok K
  y0 : ∀ x ∈ c.y0, x.ok K
  y1 : ∀ x ∈ c.y1, x.ok K
  f0 : ∀ x ∈ c.f0, x.ok K
  f1 : ∀ x ∈ c.f1, x.ok K
theorem szX (c : Spn) (s : RF) (hs : s.ok 65536) (hc : c.ok 65536) : szQ (c.x s.q) ≤ 200000 := by
  have h1 := zcp s.q c.t.q
  have h2 := zgh (s.q - c.t.q) c.h.q
  have h3 := hs.sz (by decide)
  have h4 := hc.t.sz (by decide)
  have h5 := hc.h.sz (by decide)
  unfold Spn.x; omega
theorem zon (a b : Int) (q : Rat) (ha : a.natAbs < 4294967296) (hb : b.natAbs < 4294967296) (hq : szQ q ≤ 200000) : szQ (a + b * q) ≤ 200010 := by
  have h1 := zda a ha
  have h2 := zda b hb
  have h3 := zcz (b : Rat) q
  have h4 := zgi (a : Rat) (b * q)
  omega
theorem zhp (l : List RF) (h : ∀ x ∈ l, x.ok 200010) (hl : l.length ≤ 4) : szQ (prodQ (qs l)) ≤ 1000000 := by
  have := zjw 200010 (by decide) l h l.length (Nat.le_refl _)
  rw [List.take_of_length_le (by simp [qs])] at this
  have h2 : l.length * 200010 ≤ 4 * 200010 := Nat.mul_le_mul_right _ hl
  omega
theorem zcv {c : Spn} (h : c.right = true) : 0 < sgnQ c.h.q ∧ c.y0.length ≤ 300 ∧ c.y1.length = c.y0.length ∧ c.f0.length = c.y0.length ∧ c.f1.length = c.y0.length := by
  simp only [Spn.right, Bool.and_eq_true, decide_eq_true_eq] at h
  obtain ⟨⟨⟨⟨a, b⟩, c⟩, d⟩, e⟩ := h
  exact ⟨a, by omega, c, d, e⟩
set_option maxHeartbeats 4000000 in
theorem zqt (c : Spn) (s : RF) (hr : c.right = true) (hs : s.ok 65536) (hc : c.ok 65536) : CallOk Tryz.prog 14 [c.pv, s.pv] [] (.tup [rowQ (c.atQ s.q), .bool true]) [] := by
  obtain ⟨r1, r2, r3, r4, r5⟩ := zcv hr
  have k0 := zdv c (hc.h.mono (by decide))
  rw [hr] at k0
  have k1 := znk c s (hs.mono (by decide)) (hc.t.mono (by decide)) (hc.h.mono (by decide))
  have zx := szX c s hs hc
  have k9 := znj c
  unfold Spn.atQ
  generalize c.x s.q = x at *
  have k2 := zct 1 (-1) x (by decide) (by decide) (by omega)
  have z2 := zon 1 (-1) x (by decide) (by decide) zx
  have k3 := zct 1 2 x (by decide) (by decide) (by omega)
  have z3 := zon 1 2 x (by decide) (by decide) zx
  have k4 := zct 3 (-2) x (by decide) (by decide) (by omega)
  have z4 := zon 3 (-2) x (by decide) (by decide) zx
  rw [show ((1 : Int) : Rat) + ((-1 : Int) : Rat) * x = 1 + (-1) * x from rfl] at k2 z2
  rw [show ((1 : Int) : Rat) + ((2 : Int) : Rat) * x = 1 + 2 * x from rfl] at k3 z3
  rw [show ((3 : Int) : Rat) + ((-2 : Int) : Rat) * x = 3 + (-2) * x from rfl] at k4 z4
  generalize (1 : Rat) + (-1) * x = y at *
  generalize (1 : Rat) + 2 * x = l1 at *
  generalize (3 : Rat) + (-2) * x = l2 at *
  have ox : (RF.of x).ok 200010 := RF.of_ok (by omega)
  have oy : (RF.of y).ok 200010 := RF.of_ok (by omega)
  have on : (RF.of (-y)).ok 200010 := RF.of_ok (by rw [zgg]; omega)
  have o1 : (RF.of l1).ok 200010 := RF.of_ok (by omega)
  have o2 : (RF.of l2).ok 200010 := RF.of_ok (by omega)
  have oh : c.h.ok 200010 := hc.h.mono (by decide)
  have a5 : ∀ z ∈ [RF.of y, RF.of y, RF.of l1], z.ok 200010 := by intro z hz; simp at hz; rcases hz with rfl | rfl | rfl <;> assumption
  have a6 : ∀ z ∈ [RF.of x, RF.of x, RF.of l2], z.ok 200010 := by intro z hz; simp at hz; rcases hz with rfl | rfl | rfl <;> assumption
  have a7 : ∀ z ∈ [c.h, RF.of x, RF.of y, RF.of y], z.ok 200010 := by intro z hz; simp at hz; rcases hz with rfl | rfl | rfl | rfl <;> assumption
  have a8 : ∀ z ∈ [c.h, RF.of x, RF.of x, RF.of (-y)], z.ok 200010 := by intro z hz; simp at hz; rcases hz with rfl | rfl | rfl | rfl <;> assumption
  have k5 := zdb [RF.of y, RF.of y, RF.of l1] 200010 (by decide) a5 (by simp)
  have k6 := zdb [RF.of x, RF.of x, RF.of l2] 200010 (by decide) a6 (by simp)
  have k7 := zdb [c.h, RF.of x, RF.of y, RF.of y] 200010 (by decide) a7 (by simp)
  have k8 := zdb [c.h, RF.of x, RF.of x, RF.of (-y)] 200010 (by decide) a8 (by simp)
  have kn := qNeg (p := y) (by omega)
  have z5 := zhp _ a5 (by simp)
  have z6 := zhp _ a6 (by simp)
  have z7 := zhp _ a7 (by simp)
  have z8 := zhp _ a8 (by simp)
  simp only [qs, List.map_cons, List.map_nil, RF.of_q] at k5 k6 k7 k8 z5 z6 z7 z8
  clear a5 a6 a7 a8
  generalize prodQ [y, y, l1] = w0 at *
  generalize prodQ [x, x, l2] = w1 at *
  generalize prodQ [c.h.q, x, y, y] = w2 at *
  generalize prodQ [c.h.q, x, x, -y] = w3 at *
  have kM := zqv [RF.of w0, RF.of w1, RF.of w2, RF.of w3] [c.y0, c.y1, c.f0, c.f1] c.y0.length 1000000 rfl (by omega)
    (by intro l hl; simp at hl; rcases hl with rfl | rfl | rfl | rfl <;> first | rfl | assumption)
    (by intro z hz; simp at hz; rcases hz with rfl | rfl | rfl | rfl <;> exact RF.of_ok (by assumption))
    (by intro l hl z hz; simp at hl; rcases hl with rfl | rfl | rfl | rfl
        · exact (hc.y0 _ hz).mono (by decide)
        · exact (hc.y1 _ hz).mono (by decide)
        · exact (hc.f0 _ hz).mono (by decide)
        · exact (hc.f1 _ hz).mono (by decide)) (by decide) (by simp)
  simp only [qs, List.map_cons, List.map_nil, RF.of_q, List.zip_cons_cons, List.zip_nil_right, List.length_cons, List.length_nil] at kM
  simp only [qs]
  have hb : c.y0.length ≤ 300 := r2
  clear z2 z3 z4 z5 z6 z7 z8 zx ox oy on o1 o2 oh hs hc hr r1 r2 r3 r4 r5
  generalize -y = y2 at *
  generalize mixQ c.y0.length _ = R at *
  obtain ⟨t, h, y0, y1, f0, f1⟩ := c
  simp only [Spn.pv, Spn.cells] at *
  refine CallOk.of_wl Tryz.func14 rfl rfl rfl (Nat.le_of_ble_eq_true rfl) ?_
  (repeat (first | with_reducible (first | refine WL.seq ?_ | refine WL.skip ?_ | refine WL.label ?_ | refine WL.block ?_ | refine WL.scope ?_ | refine WL.nilS ?_ | refine WL.reS ?_ | refine WL.exS ?_ | refine WL.nilB ?_ | refine WL.nilT ?_ | refine WL.exit ?_ | refine WL.ret ?_ | refine WL.exT ?_ | refine WL.exB ?_ | refine WL.exN rfl ?_ | refine WL.reT ?_ | refine WL.reB ?_) | ((first | refine WL.reg rfl ?_ | refine WL.regT zai rfl ?_); (conv => { arg 3; simp [prep, prep1] }); (repeat (first | (refine zau ⟨_, Tryz.func20, rfl, rfl⟩ ?_ ?_; (first | rfl | focus (simp; done)); (conv => { arg 6; simp (disch := omega) [-litE, zbr, zbx, zbw, zbv, row, RF.pv, RF.cells, frQ, fr, RF.of] }); (first | refine zbo (k0) rfl ?_ | (refine zbn (k0) rfl ?_; (conv => { arg 1; simp }); refine zbg ?_))) | (refine zau ⟨_, Tryz.func61, rfl, rfl⟩ ?_ ?_; (first | rfl | focus (simp; done)); (conv => { arg 6; simp (disch := omega) [-litE, zbr, zbx, zbw, zbv, row, RF.pv, RF.cells, frQ, fr, RF.of] }); (first | refine zbo (k1) rfl ?_ | (refine zbn (k1) rfl ?_; (conv => { arg 1; simp }); refine zbg ?_))) | (refine zau ⟨_, Tryz.func62, rfl, rfl⟩ ?_ ?_; (first | rfl | focus (simp; done)); (conv => { arg 6; simp (disch := omega) [-litE, zbr, zbx, zbw, zbv, row, RF.pv, RF.cells, frQ, fr, RF.of] }); (first | refine zbo (k2) rfl ?_ | (refine zbn (k2) rfl ?_; (conv => { arg 1; simp }); refine zbg ?_))) | (refine zgy ?_ ?_; (first | rfl | focus (simp; done)); (conv => { arg 4; simp (disch := omega) [-litE, zbr, zbx, zbw, zbv, row, RF.pv, RF.cells, frQ, fr, RF.of] }); (first | refine zaa ?_ | refine zhj ?_ | (refine zgb ?_; (conv => { arg 5; arg 3; simp })) | refine zhk ?_ | (refine zac ?_; (conv => { arg 5; simp })))) | (refine zab rfl ?_ ?_; (focus (simp; done))))); with_reducible refine zad ?_; (first | refine ⟨rfl, ?_⟩ | refine ⟨by simp [quietB], by simp [quietU], ?_⟩ | skip)) | (refine WL.cond ?_; (conv => { arg 1; simp (disch := omega) [-litE, zbr, zbx, zbw, zbv, row, RF.pv, RF.cells, frQ, fr, RF.of] }); with_reducible (first | refine zaj ?_ | refine zak ?_ | refine zag (by omega) ?_ | refine zah (by omega) ?_))))
  clear k0 k1 k2
  (repeat (first | with_reducible (first | refine WL.seq ?_ | refine WL.skip ?_ | refine WL.label ?_ | refine WL.block ?_ | refine WL.scope ?_ | refine WL.nilS ?_ | refine WL.reS ?_ | refine WL.exS ?_ | refine WL.nilB ?_ | refine WL.nilT ?_ | refine WL.exit ?_ | refine WL.ret ?_ | refine WL.exT ?_ | refine WL.exB ?_ | refine WL.exN rfl ?_ | refine WL.reT ?_ | refine WL.reB ?_) | ((first | refine WL.reg rfl ?_ | refine WL.regT zai rfl ?_); (conv => { arg 3; simp [prep, prep1] }); (repeat (first | (refine zau ⟨_, Tryz.func62, rfl, rfl⟩ ?_ ?_; (first | rfl | focus (simp; done)); (conv => { arg 6; simp (disch := omega) [-litE, zbr, zbx, zbw, zbv, row, RF.pv, RF.cells, frQ, fr, RF.of] }); (first | refine zbo (k3) rfl ?_ | (refine zbn (k3) rfl ?_; (conv => { arg 1; simp }); refine zbg ?_))) | (refine zau ⟨_, Tryz.func63, rfl, rfl⟩ ?_ ?_; (first | rfl | focus (simp; done)); (conv => { arg 6; simp (disch := omega) [-litE, zbr, zbx, zbw, zbv, row, RF.pv, RF.cells, frQ, fr, RF.of] }); (first | refine zbo (k5) rfl ?_ | (refine zbn (k5) rfl ?_; (conv => { arg 1; simp }); refine zbg ?_))) | (refine zau ⟨_, Tryz.func62, rfl, rfl⟩ ?_ ?_; (first | rfl | focus (simp; done)); (conv => { arg 6; simp (disch := omega) [-litE, zbr, zbx, zbw, zbv, row, RF.pv, RF.cells, frQ, fr, RF.of] }); (first | refine zbo (k4) rfl ?_ | (refine zbn (k4) rfl ?_; (conv => { arg 1; simp }); refine zbg ?_))) | (refine zau ⟨_, Tryz.func63, rfl, rfl⟩ ?_ ?_; (first | rfl | focus (simp; done)); (conv => { arg 6; simp (disch := omega) [-litE, zbr, zbx, zbw, zbv, row, RF.pv, RF.cells, frQ, fr, RF.of] }); (first | refine zbo (k6) rfl ?_ | (refine zbn (k6) rfl ?_; (conv => { arg 1; simp }); refine zbg ?_))) | (refine zau ⟨_, Tryz.func63, rfl, rfl⟩ ?_ ?_; (first | rfl | focus (simp; done)); (conv => { arg 6; simp (disch := omega) [-litE, zbr, zbx, zbw, zbv, row, RF.pv, RF.cells, frQ, fr, RF.of] }); (first | refine zbo (k7) rfl ?_ | (refine zbn (k7) rfl ?_; (conv => { arg 1; simp }); refine zbg ?_))) | (refine zau ⟨_, Tryz.func64, rfl, rfl⟩ ?_ ?_; (first | rfl | focus (simp; done)); (conv => { arg 6; simp (disch := omega) [-litE, zbr, zbx, zbw, zbv, row, RF.pv, RF.cells, frQ, fr, RF.of] }); (first | refine zbo (kn) rfl ?_ | (refine zbn (kn) rfl ?_; (conv => { arg 1; simp }); refine zbg ?_))) | (refine zau ⟨_, Tryz.func63, rfl, rfl⟩ ?_ ?_; (first | rfl | focus (simp; done)); (conv => { arg 6; simp (disch := omega) [-litE, zbr, zbx, zbw, zbv, row, RF.pv, RF.cells, frQ, fr, RF.of] }); (first | refine zbo (k8) rfl ?_ | (refine zbn (k8) rfl ?_; (conv => { arg 1; simp }); refine zbg ?_))) | (refine zau ⟨_, Tryz.func65, rfl, rfl⟩ ?_ ?_; (first | rfl | focus (simp; done)); (conv => { arg 6; simp (disch := omega) [-litE, zbr, zbx, zbw, zbv, row, RF.pv, RF.cells, frQ, fr, RF.of] }); (first | refine zbo (k9) rfl ?_ | (refine zbn (k9) rfl ?_; (conv => { arg 1; simp }); refine zbg ?_))) | (refine zau ⟨_, Tryz.func47, rfl, rfl⟩ ?_ ?_; (first | rfl | focus (simp; done)); (conv => { arg 6; simp (disch := omega) [-litE, zbr, zbx, zbw, zbv, row, RF.pv, RF.cells, frQ, fr, RF.of] }); (first | refine zbo (kM) rfl ?_ | (refine zbn (kM) rfl ?_; (conv => { arg 1; simp }); refine zbg ?_))) | (refine zgy ?_ ?_; (first | rfl | focus (simp; done)); (conv => { arg 4; simp (disch := omega) [-litE, zbr, zbx, zbw, zbv, row, RF.pv, RF.cells, frQ, fr, RF.of] }); (first | refine zaa ?_ | refine zhj ?_ | (refine zgb ?_; (conv => { arg 5; arg 3; simp })) | refine zhk ?_ | (refine zac ?_; (conv => { arg 5; simp })))) | (refine zab rfl ?_ ?_; (focus (simp; done))))); with_reducible refine zad ?_; (first | refine ⟨rfl, ?_⟩ | refine ⟨by simp [quietB], by simp [quietU], ?_⟩ | skip)) | (refine WL.cond ?_; (conv => { arg 1; simp (disch := omega) [-litE, zbr, zbx, zbw, zbv, row, RF.pv, RF.cells, frQ, fr, RF.of] }); with_reducible (first | refine zaj ?_ | refine zak ?_ | refine zag (by omega) ?_ | refine zah (by omega) ?_))))
  refine ⟨[], ?_⟩
  simp (disch := omega) [rowQ, row]
def Spn.slopeQ (c : Spn) (s : Rat) : List Rat :=
  mixQ c.y0.length [(-(prodQ [6, c.x s, 1 + (-1) * c.x s] / c.h.q), qs c.y0), (prodQ [6, c.x s, 1 + (-1) * c.x s] / c.h.q, qs c.y1),
    (prodQ [1 + (-1) * c.x s, 1 + (-3) * c.x s], qs c.f0), (prodQ [c.x s, -2 + 3 * c.x s], qs c.f1)]
set_option maxHeartbeats 4000000 in
theorem zlj (c : Spn) (s : RF) (hr : c.right = true) (hs : s.ok 65536) (hc : c.ok 65536) : CallOk Tryz.prog 17 [c.pv, s.pv] [] (.tup [rowQ (c.slopeQ s.q), .bool true]) [] := by
  obtain ⟨r1, r2, r3, r4, r5⟩ := zcv hr
  have k0 := zdv c (hc.h.mono (by decide))
  rw [hr] at k0
  have k1 := znk c s (hs.mono (by decide)) (hc.t.mono (by decide)) (hc.h.mono (by decide))
  have zx := szX c s hs hc
  have k9 := znj c
  unfold Spn.slopeQ
  generalize c.x s.q = x at *
  have k2 := zct 1 (-1) x (by decide) (by decide) (by omega)
  have z2 := zon 1 (-1) x (by decide) (by decide) zx
  have k3 := zct 1 (-3) x (by decide) (by decide) (by omega)
  have z3 := zon 1 (-3) x (by decide) (by decide) zx
  have k4 := zct (-2) 3 x (by decide) (by decide) (by omega)
  have z4 := zon (-2) 3 x (by decide) (by decide) zx
  have k6 := zeo 6 (by omega)
  have z6 := zda 6 (by decide)
  rw [show ((1 : Int) : Rat) + ((-1 : Int) : Rat) * x = 1 + (-1) * x from rfl] at k2 z2
  rw [show ((1 : Int) : Rat) + ((-3 : Int) : Rat) * x = 1 + (-3) * x from rfl] at k3 z3
  rw [show ((-2 : Int) : Rat) + ((3 : Int) : Rat) * x = -2 + 3 * x from rfl] at k4 z4
  rw [show ((6 : Int) : Rat) = 6 from rfl] at k6 z6
  generalize (1 : Rat) + (-1) * x = y at *
  generalize (1 : Rat) + (-3) * x = l1 at *
  generalize (-2 : Rat) + 3 * x = l2 at *
  generalize (6 : Rat) = six at *
  have ox : (RF.of x).ok 200010 := RF.of_ok (by omega)
  have oy : (RF.of y).ok 200010 := RF.of_ok (by omega)
  have o6 : (RF.of six).ok 200010 := RF.of_ok (by omega)
  have o1 : (RF.of l1).ok 200010 := RF.of_ok (by omega)
  have o2 : (RF.of l2).ok 200010 := RF.of_ok (by omega)
  have oh : c.h.ok 65536 := hc.h
  have a5 : ∀ z ∈ [RF.of six, RF.of x, RF.of y], z.ok 200010 := by intro z hz; simp at hz; rcases hz with rfl | rfl | rfl <;> assumption
  have a6 : ∀ z ∈ [RF.of y, RF.of l1], z.ok 200010 := by intro z hz; simp at hz; rcases hz with rfl | rfl <;> assumption
  have a7 : ∀ z ∈ [RF.of x, RF.of l2], z.ok 200010 := by intro z hz; simp at hz; rcases hz with rfl | rfl <;> assumption
  have k5 := zdb [RF.of six, RF.of x, RF.of y] 200010 (by decide) a5 (by simp)
  have k7 := zdb [RF.of y, RF.of l1] 200010 (by decide) a6 (by simp)
  have k8 := zdb [RF.of x, RF.of l2] 200010 (by decide) a7 (by simp)
  have z5 := zhp _ a5 (by simp)
  have z7 := zhp _ a6 (by simp)
  have z8 := zhp _ a7 (by simp)
  simp only [qs, List.map_cons, List.map_nil, RF.of_q] at k5 k7 k8 z5 z7 z8
  clear a5 a6 a7
  generalize prodQ [six, x, y] = w0 at *
  generalize prodQ [y, l1] = w2 at *
  generalize prodQ [x, l2] = w3 at *
  have kq := zrr (a := RF.of w0) (b := c.h) (RF.of_ok (by omega)) (oh.mono (by decide))
  rw [RF.of_q] at kq
  have zq := zgh w0 c.h.q
  have zh := oh.sz (by decide)
  generalize w0 / c.h.q = w1 at *
  have kn := qNeg (p := w1) (by omega)
  have zn := zgg w1
  generalize -w1 = wn at *
  generalize decide (c.h.q ≠ 0) = bq at *
  have kM := zqv [RF.of wn, RF.of w1, RF.of w2, RF.of w3] [c.y0, c.y1, c.f0, c.f1] c.y0.length 1100000 rfl (by omega)
    (by intro l hl; simp at hl; rcases hl with rfl | rfl | rfl | rfl <;> first | rfl | assumption)
    (by intro z hz; simp at hz; rcases hz with rfl | rfl | rfl | rfl <;> exact RF.of_ok (by omega))
    (by intro l hl z hz; simp at hl; rcases hl with rfl | rfl | rfl | rfl
        · exact (hc.y0 _ hz).mono (by decide)
        · exact (hc.y1 _ hz).mono (by decide)
        · exact (hc.f0 _ hz).mono (by decide)
        · exact (hc.f1 _ hz).mono (by decide)) (by decide) (by simp)
  simp only [qs, List.map_cons, List.map_nil, RF.of_q, List.zip_cons_cons, List.zip_nil_right, List.length_cons, List.length_nil] at kM
  simp only [qs]
  have hb : c.y0.length ≤ 300 := r2
  clear z2 z3 z4 z5 z6 z7 z8 zx zq zh zn ox oy o6 o1 o2 oh hs hc hr r1 r2 r3 r4 r5
  generalize mixQ c.y0.length _ = R at *
  obtain ⟨t, h, y0, y1, f0, f1⟩ := c
  simp only [Spn.pv, Spn.cells] at *
  refine CallOk.of_wl Tryz.func17 rfl rfl rfl (Nat.le_of_ble_eq_true rfl) ?_
  (repeat (first | with_reducible (first | refine WL.seq ?_ | refine WL.skip ?_ | refine WL.label ?_ | refine WL.block ?_ | refine WL.scope ?_ | refine WL.nilS ?_ | refine WL.reS ?_ | refine WL.exS ?_ | refine WL.nilB ?_ | refine WL.nilT ?_ | refine WL.exit ?_ | refine WL.ret ?_ | refine WL.exT ?_ | refine WL.exB ?_ | refine WL.exN rfl ?_ | refine WL.reT ?_ | refine WL.reB ?_) | ((first | refine WL.reg rfl ?_ | refine WL.regT zai rfl ?_); (conv => { arg 3; simp [prep, prep1] }); (repeat (first | (refine zau ⟨_, Tryz.func20, rfl, rfl⟩ ?_ ?_; (first | rfl | focus (simp; done)); (conv => { arg 6; simp (disch := omega) [-litE, zbr, zbx, zbw, zbv, row, RF.pv, RF.cells, frQ, fr, RF.of] }); (first | refine zbo (k0) rfl ?_ | (refine zbn (k0) rfl ?_; (conv => { arg 1; simp }); refine zbg ?_))) | (refine zau ⟨_, Tryz.func61, rfl, rfl⟩ ?_ ?_; (first | rfl | focus (simp; done)); (conv => { arg 6; simp (disch := omega) [-litE, zbr, zbx, zbw, zbv, row, RF.pv, RF.cells, frQ, fr, RF.of] }); (first | refine zbo (k1) rfl ?_ | (refine zbn (k1) rfl ?_; (conv => { arg 1; simp }); refine zbg ?_))) | (refine zau ⟨_, Tryz.func62, rfl, rfl⟩ ?_ ?_; (first | rfl | focus (simp; done)); (conv => { arg 6; simp (disch := omega) [-litE, zbr, zbx, zbw, zbv, row, RF.pv, RF.cells, frQ, fr, RF.of] }); (first | refine zbo (k2) rfl ?_ | (refine zbn (k2) rfl ?_; (conv => { arg 1; simp }); refine zbg ?_))) | (refine zgy ?_ ?_; (first | rfl | focus (simp; done)); (conv => { arg 4; simp (disch := omega) [-litE, zbr, zbx, zbw, zbv, row, RF.pv, RF.cells, frQ, fr, RF.of] }); (first | refine zaa ?_ | refine zhj ?_ | (refine zgb ?_; (conv => { arg 5; arg 3; simp })) | refine zhk ?_ | (refine zac ?_; (conv => { arg 5; simp })))) | (refine zab rfl ?_ ?_; (focus (simp; done))))); with_reducible refine zad ?_; (first | refine ⟨rfl, ?_⟩ | refine ⟨by simp [quietB], by simp [quietU], ?_⟩ | skip)) | (refine WL.cond ?_; (conv => { arg 1; simp (disch := omega) [-litE, zbr, zbx, zbw, zbv, row, RF.pv, RF.cells, frQ, fr, RF.of] }); with_reducible (first | refine zaj ?_ | refine zak ?_ | refine zag (by omega) ?_ | refine zah (by omega) ?_))))
  clear k0 k1 k2
  (repeat (first | with_reducible (first | refine WL.seq ?_ | refine WL.skip ?_ | refine WL.label ?_ | refine WL.block ?_ | refine WL.scope ?_ | refine WL.nilS ?_ | refine WL.reS ?_ | refine WL.exS ?_ | refine WL.nilB ?_ | refine WL.nilT ?_ | refine WL.exit ?_ | refine WL.ret ?_ | refine WL.exT ?_ | refine WL.exB ?_ | refine WL.exN rfl ?_ | refine WL.reT ?_ | refine WL.reB ?_) | ((first | refine WL.reg rfl ?_ | refine WL.regT zai rfl ?_); (conv => { arg 3; simp [prep, prep1] }); (repeat (first | (refine zau ⟨_, Tryz.func60, rfl, rfl⟩ ?_ ?_; (first | rfl | focus (simp; done)); (conv => { arg 6; simp (disch := omega) [-litE, zbr, zbx, zbw, zbv, row, RF.pv, RF.cells, frQ, fr, RF.of] }); (first | refine zbo (k6) rfl ?_ | (refine zbn (k6) rfl ?_; (conv => { arg 1; simp }); refine zbg ?_))) | (refine zau ⟨_, Tryz.func63, rfl, rfl⟩ ?_ ?_; (first | rfl | focus (simp; done)); (conv => { arg 6; simp (disch := omega) [-litE, zbr, zbx, zbw, zbv, row, RF.pv, RF.cells, frQ, fr, RF.of] }); (first | refine zbo (k5) rfl ?_ | (refine zbn (k5) rfl ?_; (conv => { arg 1; simp }); refine zbg ?_))) | (refine zau ⟨_, Tryz.func66, rfl, rfl⟩ ?_ ?_; (first | rfl | focus (simp; done)); (conv => { arg 6; simp (disch := omega) [-litE, zbr, zbx, zbw, zbv, row, RF.pv, RF.cells, frQ, fr, RF.of] }); (first | refine zbo (kq) rfl ?_ | (refine zbn (kq) rfl ?_; (conv => { arg 1; simp }); refine zbg ?_))) | (refine zau ⟨_, Tryz.func64, rfl, rfl⟩ ?_ ?_; (first | rfl | focus (simp; done)); (conv => { arg 6; simp (disch := omega) [-litE, zbr, zbx, zbw, zbv, row, RF.pv, RF.cells, frQ, fr, RF.of] }); (first | refine zbo (kn) rfl ?_ | (refine zbn (kn) rfl ?_; (conv => { arg 1; simp }); refine zbg ?_))) | (refine zau ⟨_, Tryz.func62, rfl, rfl⟩ ?_ ?_; (first | rfl | focus (simp; done)); (conv => { arg 6; simp (disch := omega) [-litE, zbr, zbx, zbw, zbv, row, RF.pv, RF.cells, frQ, fr, RF.of] }); (first | refine zbo (k3) rfl ?_ | (refine zbn (k3) rfl ?_; (conv => { arg 1; simp }); refine zbg ?_))) | (refine zau ⟨_, Tryz.func63, rfl, rfl⟩ ?_ ?_; (first | rfl | focus (simp; done)); (conv => { arg 6; simp (disch := omega) [-litE, zbr, zbx, zbw, zbv, row, RF.pv, RF.cells, frQ, fr, RF.of] }); (first | refine zbo (k7) rfl ?_ | (refine zbn (k7) rfl ?_; (conv => { arg 1; simp }); refine zbg ?_))) | (refine zau ⟨_, Tryz.func62, rfl, rfl⟩ ?_ ?_; (first | rfl | focus (simp; done)); (conv => { arg 6; simp (disch := omega) [-litE, zbr, zbx, zbw, zbv, row, RF.pv, RF.cells, frQ, fr, RF.of] }); (first | refine zbo (k4) rfl ?_ | (refine zbn (k4) rfl ?_; (conv => { arg 1; simp }); refine zbg ?_))) | (refine zau ⟨_, Tryz.func63, rfl, rfl⟩ ?_ ?_; (first | rfl | focus (simp; done)); (conv => { arg 6; simp (disch := omega) [-litE, zbr, zbx, zbw, zbv, row, RF.pv, RF.cells, frQ, fr, RF.of] }); (first | refine zbo (k8) rfl ?_ | (refine zbn (k8) rfl ?_; (conv => { arg 1; simp }); refine zbg ?_))) | (refine zau ⟨_, Tryz.func65, rfl, rfl⟩ ?_ ?_; (first | rfl | focus (simp; done)); (conv => { arg 6; simp (disch := omega) [-litE, zbr, zbx, zbw, zbv, row, RF.pv, RF.cells, frQ, fr, RF.of] }); (first | refine zbo (k9) rfl ?_ | (refine zbn (k9) rfl ?_; (conv => { arg 1; simp }); refine zbg ?_))) | (refine zau ⟨_, Tryz.func47, rfl, rfl⟩ ?_ ?_; (first | rfl | focus (simp; done)); (conv => { arg 6; simp (disch := omega) [-litE, zbr, zbx, zbw, zbv, row, RF.pv, RF.cells, frQ, fr, RF.of] }); (first | refine zbo (kM) rfl ?_ | (refine zbn (kM) rfl ?_; (conv => { arg 1; simp }); refine zbg ?_))) | (refine zgy ?_ ?_; (first | rfl | focus (simp; done)); (conv => { arg 4; simp (disch := omega) [-litE, zbr, zbx, zbw, zbv, row, RF.pv, RF.cells, frQ, fr, RF.of] }); (first | refine zaa ?_ | refine zhj ?_ | (refine zgb ?_; (conv => { arg 5; arg 3; simp })) | refine zhk ?_ | (refine zac ?_; (conv => { arg 5; simp })))) | (refine zab rfl ?_ ?_; (focus (simp; done))))); with_reducible refine zad ?_; (first | refine ⟨rfl, ?_⟩ | refine ⟨by simp [quietB], by simp [quietU], ?_⟩ | skip)) | (refine WL.cond ?_; (conv => { arg 1; simp (disch := omega) [-litE, zbr, zbx, zbw, zbv, row, RF.pv, RF.cells, frQ, fr, RF.of] }); with_reducible (first | refine zaj ?_ | refine zak ?_ | refine zag (by omega) ?_ | refine zah (by omega) ?_))))
  refine ⟨[], ?_⟩
  simp (disch := omega) [rowQ, row]
end Go.Proofs.YthgldcflcmlgpaaGreatDoorE
end
section
/- What the law makes of its argument; what is too long. -/
set_option linter.unusedVariables false
set_option linter.unusedSimpArgs false
namespace Go.Proofs.YthgldcflcmlgpaaGreatDoorE
open Go.RowKit
set_option maxRecDepth 100000
attribute [local simp] List.getElem?_cons_zero List.getElem?_cons_succ List.getElem?_nil wrap_i64 stOf st0 effF effC evalV evalL zfd zcr pv_t pv_c pv_g pv_f ofConst binV binI lenV foldV mx2 mn2 unV convV extractV idxV indexV fieldAddrV fieldV partV sliceV boundsV loadL live storeE appendE srcV litE makeE IntKind.bits copyE boxE allocE flatParts flatCs flatC allParts cellsOf solid leafB fillL frzL buildV fillP placeS eqFl eqCell St.eff St.put wrs callE renP renA renC renI nid newL renB noEff endK endR resA resL resV expP expA expC expN expL expBs expB idx thenQ blockQ wantK if_pos if_neg wrap_u32 zas beqI bneI w32 wl zar Int.natCast_inj
theorem zic (a : RF) : CallOk Tryz.prog 16 [a.pv] [] a.pv [] := by
  refine CallOk.of_wl Tryz.func16 rfl rfl rfl (Nat.le_of_ble_eq_true rfl) ?_
  (repeat (first | with_reducible (first | refine WL.seq ?_ | refine WL.skip ?_ | refine WL.label ?_ | refine WL.block ?_ | refine WL.scope ?_ | refine WL.nilS ?_ | refine WL.reS ?_ | refine WL.exS ?_ | refine WL.nilB ?_ | refine WL.nilT ?_ | refine WL.exit ?_ | refine WL.ret ?_ | refine WL.exT ?_ | refine WL.exB ?_ | refine WL.exN rfl ?_ | refine WL.reT ?_ | refine WL.reB ?_) | ((first | refine WL.reg rfl ?_ | refine WL.regT zai rfl ?_); (conv => { arg 3; simp [prep, prep1] }); (repeat (first | (refine zae ?_ ?_; (focus (simp; done)); (conv => { arg 4; simp (disch := omega) [RF.pv, RF.cells] }); (first | (first | refine zaa ?_ | (refine zac ?_; (conv => { arg 5; simp }))))) | (refine zab rfl ?_ ?_; (focus (simp; done))))); with_reducible refine zad ?_; (first | refine ⟨rfl, ?_⟩ | refine ⟨by simp [quietB], by simp [quietU], ?_⟩ | skip)) | (refine WL.cond ?_; (conv => { arg 1; simp (disch := omega) [RF.pv, RF.cells] }); with_reducible (first | refine zaj ?_ | refine zak ?_ | refine zag (by omega) ?_ | refine zah (by omega) ?_))))
  refine ⟨[], ?_⟩
  simp (disch := omega) [RF.pv, RF.cells]
theorem zkn (l : List RF) (hl : l.length ≤ 2513169434843) : CallOk Tryz.prog 25 [row l] [] (row l) [] := by
  have hlen := zap l
  refine CallOk.of_wl Tryz.func25 rfl rfl rfl (Nat.le_of_ble_eq_true rfl) ?_
  (repeat (first | with_reducible (first | refine WL.seq ?_ | refine WL.skip ?_ | refine WL.label ?_ | refine WL.block ?_ | refine WL.scope ?_ | refine WL.nilS ?_ | refine WL.reS ?_ | refine WL.exS ?_ | refine WL.nilB ?_ | refine WL.nilT ?_ | refine WL.exit ?_ | refine WL.ret ?_ | refine WL.exT ?_ | refine WL.exB ?_ | refine WL.exN rfl ?_ | refine WL.reT ?_ | refine WL.reB ?_) | ((first | refine WL.reg rfl ?_ | refine WL.regT zai rfl ?_); (conv => { arg 3; simp [prep, prep1] }); (repeat (first | (refine zae ?_ ?_; (focus (simp; done)); (conv => { arg 4; simp (disch := omega) [row] }); (first | (first | refine zaa ?_ | (refine zac ?_; (conv => { arg 5; simp }))))) | (refine zab rfl ?_ ?_; (focus (simp; done))))); with_reducible refine zad ?_; (first | refine ⟨rfl, ?_⟩ | refine ⟨by simp [quietB], by simp [quietU], ?_⟩ | skip)) | (refine WL.cond ?_; (conv => { arg 1; simp (disch := omega) [row] }); with_reducible (first | refine zaj ?_ | refine zak ?_ | refine zag (by omega) ?_ | refine zah (by omega) ?_))))
  refine WL.loop (fun m s => ∃ i : Nat, m = l.length - i ∧ i ≤ l.length ∧ s.frame 0 = row l ∧ s.frame 4 = .int .i64 i ∧
    ((i = 0 ∧ s.frame 3 = .nilS) ∨ ∃ G v, s.frame 3 = .sl ⟨18, G, 0⟩ v 0 i 3 ∧ s.store ⟨18, G, 0⟩ = some ⟨v, true, true, rowC (l.take i)⟩)) l.length ?_ ?_
  · exact ⟨0, by omega, by omega, by simp [row], by simp, .inl ⟨rfl, by simp⟩⟩
  rintro m ⟨f, σ, g⟩ ⟨i, rfl, hi, h0, h4, h3⟩
  simp only at h0 h4 h3
  by_cases hi' : i < l.length
  · have rx := zeh hi'
    have h3l : 3 ≤ (rowC l).length - i * 3 := by omega
    have htk : rowC (l.take (i + 1)) = rowC (l.take i) ++ (l[i]'hi').cells := by
      rw [List.take_succ_eq_append_getElem hi', zcm]; simp [rowC]
    have c1 := zic (l[i]'hi')
    generalize l[i]'hi' = x at *
    rcases h3 with ⟨rfl, h3⟩ | ⟨G, v, h3, hst⟩
    · have htk0 : rowC (l.take 1) = x.cells := by simpa [rowC] using htk
      have rx0 : (rowC l).take 3 = x.cells := by simpa using rx
      have h3l0 : 3 ≤ l.length * 3 := by omega
      (repeat (first | with_reducible (first | refine WL.seq ?_ | refine WL.skip ?_ | refine WL.label ?_ | refine WL.block ?_ | refine WL.scope ?_ | refine WL.nilS ?_ | refine WL.reS ?_ | refine WL.exS ?_ | refine WL.nilB ?_ | refine WL.nilT ?_ | refine WL.exit ?_ | refine WL.ret ?_ | refine WL.exT ?_ | refine WL.exB ?_ | refine WL.exN rfl ?_ | refine WL.reT ?_ | refine WL.reB ?_) | ((first | refine WL.reg rfl ?_ | refine WL.regT zai rfl ?_); (conv => { arg 3; simp [prep, prep1] }); (repeat (first | (refine zae ?_ ?_; (focus (simp; done)); (conv => { arg 4; simp (disch := omega) [h4, h0, row, hi', hlen, rx0, h3l0, RF.pv, RF.cells, h3] }); (first | (first | refine zaa ?_ | (refine zac ?_; (conv => { arg 5; simp }))) | (refine zal true rfl rfl ⟨_, Tryz.func16, rfl, rfl⟩ ?_; (conv => { arg 6; simp (disch := omega) [h4, h0, row, hi', hlen, rx0, h3l0, RF.pv, RF.cells, h3] }); refine zaf (c1) rfl ?_; (conv => { arg 5; simp (disch := omega) [h4, h0, row, hi', hlen, rx0, h3l0, RF.pv, RF.cells, h3] })))) | (refine zab rfl ?_ ?_; (focus (simp; done))))); with_reducible refine zad ?_; (first | refine ⟨rfl, ?_⟩ | refine ⟨by simp [quietB], by simp [quietU], ?_⟩ | skip)) | (refine WL.cond ?_; (conv => { arg 1; simp (disch := omega) [h4, h0, row, hi', hlen, rx0, h3l0, RF.pv, RF.cells, h3] }); with_reducible (first | refine zaj ?_ | refine zak ?_ | refine zag (by omega) ?_ | refine zah (by omega) ?_))))
      exact ⟨l.length - 1, by omega, 1, rfl, by omega, by simp [h0, row], by simp, .inr ⟨g 18, 0, by simp, by simp [htk0, RF.cells]⟩⟩
    · have hlt := zap (l.take i)
      rw [List.length_take, Nat.min_eq_left hi] at hlt
      have htk1 : (rowC (l.take i)).take (i * 3) = rowC (l.take i) := List.take_of_length_le (by omega)
      (repeat (first | with_reducible (first | refine WL.seq ?_ | refine WL.skip ?_ | refine WL.label ?_ | refine WL.block ?_ | refine WL.scope ?_ | refine WL.nilS ?_ | refine WL.reS ?_ | refine WL.exS ?_ | refine WL.nilB ?_ | refine WL.nilT ?_ | refine WL.exit ?_ | refine WL.ret ?_ | refine WL.exT ?_ | refine WL.exB ?_ | refine WL.exN rfl ?_ | refine WL.reT ?_ | refine WL.reB ?_) | ((first | refine WL.reg rfl ?_ | refine WL.regT zai rfl ?_); (conv => { arg 3; simp [prep, prep1] }); (repeat (first | (refine zae ?_ ?_; (focus (simp; done)); (conv => { arg 4; simp (disch := omega) [h4, h0, row, hi', hlen, rx, h3l, RF.pv, RF.cells, h3, hst, hlt, htk1] }); (first | (first | refine zaa ?_ | (refine zac ?_; (conv => { arg 5; simp }))) | (refine zal true rfl rfl ⟨_, Tryz.func16, rfl, rfl⟩ ?_; (conv => { arg 6; simp (disch := omega) [h4, h0, row, hi', hlen, rx, h3l, RF.pv, RF.cells, h3, hst, hlt, htk1] }); refine zaf (c1) rfl ?_; (conv => { arg 5; simp (disch := omega) [h4, h0, row, hi', hlen, rx, h3l, RF.pv, RF.cells, h3, hst, hlt, htk1] })))) | (refine zab rfl ?_ ?_; (focus (simp; done))))); with_reducible refine zad ?_; (first | refine ⟨rfl, ?_⟩ | refine ⟨by simp [quietB], by simp [quietU], ?_⟩ | skip)) | (refine WL.cond ?_; (conv => { arg 1; simp (disch := omega) [h4, h0, row, hi', hlen, rx, h3l, RF.pv, RF.cells, h3, hst, hlt, htk1] }); with_reducible (first | refine zaj ?_ | refine zak ?_ | refine zag (by omega) ?_ | refine zah (by omega) ?_))))
      exact ⟨l.length - (i + 1), by omega, i + 1, rfl, by omega, by simp [h0, row], by simp, .inr ⟨G, v + 1, by simp, by simp [htk, RF.cells]⟩⟩
  · have hia : i = l.length := by omega
    subst hia
    rcases h3 with ⟨h0', h3⟩ | ⟨G, v, h3, hst⟩
    · have : l = [] := List.eq_nil_of_length_eq_zero h0'
      subst this
      (repeat (first | with_reducible (first | refine WL.seq ?_ | refine WL.skip ?_ | refine WL.label ?_ | refine WL.block ?_ | refine WL.scope ?_ | refine WL.nilS ?_ | refine WL.reS ?_ | refine WL.exS ?_ | refine WL.nilB ?_ | refine WL.nilT ?_ | refine WL.exit ?_ | refine WL.ret ?_ | refine WL.exT ?_ | refine WL.exB ?_ | refine WL.exN rfl ?_ | refine WL.reT ?_ | refine WL.reB ?_) | ((first | refine WL.reg rfl ?_ | refine WL.regT zai rfl ?_); (conv => { arg 3; simp [prep, prep1] }); (repeat (first | (refine zae ?_ ?_; (focus (simp; done)); (conv => { arg 4; simp (disch := omega) [h4, h0, row, h3] }); (first | (first | refine zaa ?_ | (refine zac ?_; (conv => { arg 5; simp }))))) | (refine zab rfl ?_ ?_; (focus (simp; done))))); with_reducible refine zad ?_; (first | refine ⟨rfl, ?_⟩ | refine ⟨by simp [quietB], by simp [quietU], ?_⟩ | skip)) | (refine WL.cond ?_; (conv => { arg 1; simp (disch := omega) [h4, h0, row, h3] }); with_reducible (first | refine zaj ?_ | refine zak ?_ | refine zag (by omega) ?_ | refine zah (by omega) ?_))))
      refine ⟨[], ?_⟩
      simp (disch := omega) [row, rowC]
    · rw [List.take_length] at hst
      have htk1 : (rowC l).take (l.length * 3) = rowC l := List.take_of_length_le (by omega)
      (repeat (first | with_reducible (first | refine WL.seq ?_ | refine WL.skip ?_ | refine WL.label ?_ | refine WL.block ?_ | refine WL.scope ?_ | refine WL.nilS ?_ | refine WL.reS ?_ | refine WL.exS ?_ | refine WL.nilB ?_ | refine WL.nilT ?_ | refine WL.exit ?_ | refine WL.ret ?_ | refine WL.exT ?_ | refine WL.exB ?_ | refine WL.exN rfl ?_ | refine WL.reT ?_ | refine WL.reB ?_) | ((first | refine WL.reg rfl ?_ | refine WL.regT zai rfl ?_); (conv => { arg 3; simp [prep, prep1] }); (repeat (first | (refine zae ?_ ?_; (focus (simp; done)); (conv => { arg 4; simp (disch := omega) [h4, h0, row, h3, hst] }); (first | (first | refine zaa ?_ | (refine zac ?_; (conv => { arg 5; simp }))))) | (refine zab rfl ?_ ?_; (focus (simp; done))))); with_reducible refine zad ?_; (first | refine ⟨rfl, ?_⟩ | refine ⟨by simp [quietB], by simp [quietU], ?_⟩ | skip)) | (refine WL.cond ?_; (conv => { arg 1; simp (disch := omega) [h4, h0, row, h3, hst] }); with_reducible (first | refine zaj ?_ | refine zak ?_ | refine zag (by omega) ?_ | refine zah (by omega) ?_))))
      refine ⟨[], ?_⟩
      simp (disch := omega) [row, hst, hlen, htk1]
def longF (a : RF) (k : Nat) : Bool := decide (k < a.n.length) || decide (k < a.d.length)
theorem zdw (a : RF) (k : Nat) (hk : k ≤ 2513169434843) : CallOk Tryz.prog 12 [a.pv, .int .i64 k] [] (.bool (longF a k)) [] := by
  unfold longF
  by_cases h : k < a.n.length
  · refine CallOk.of_wl Tryz.func12 rfl rfl rfl (Nat.le_of_ble_eq_true rfl) ?_
    (repeat (first | with_reducible (first | refine WL.seq ?_ | refine WL.skip ?_ | refine WL.label ?_ | refine WL.block ?_ | refine WL.scope ?_ | refine WL.nilS ?_ | refine WL.reS ?_ | refine WL.exS ?_ | refine WL.nilB ?_ | refine WL.nilT ?_ | refine WL.exit ?_ | refine WL.ret ?_ | refine WL.exT ?_ | refine WL.exB ?_ | refine WL.exN rfl ?_ | refine WL.reT ?_ | refine WL.reB ?_) | ((first | refine WL.reg rfl ?_ | refine WL.regT zai rfl ?_); (conv => { arg 3; simp [prep, prep1] }); (repeat (first | (refine zae ?_ ?_; (focus (simp; done)); (conv => { arg 4; simp (disch := omega) [RF.pv, RF.cells, h] }); (first | (first | refine zaa ?_ | (refine zac ?_; (conv => { arg 5; simp }))))) | (refine zab rfl ?_ ?_; (focus (simp; done))))); with_reducible refine zad ?_; (first | refine ⟨rfl, ?_⟩ | refine ⟨by simp [quietB], by simp [quietU], ?_⟩ | skip)) | (refine WL.cond ?_; (conv => { arg 1; simp (disch := omega) [RF.pv, RF.cells, h] }); with_reducible (first | refine zaj ?_ | refine zak ?_ | refine zag (by omega) ?_ | refine zah (by omega) ?_))))
    refine ⟨[], ?_⟩
    simp (disch := omega) [h]
  · refine CallOk.of_wl Tryz.func12 rfl rfl rfl (Nat.le_of_ble_eq_true rfl) ?_
    (repeat (first | with_reducible (first | refine WL.seq ?_ | refine WL.skip ?_ | refine WL.label ?_ | refine WL.block ?_ | refine WL.scope ?_ | refine WL.nilS ?_ | refine WL.reS ?_ | refine WL.exS ?_ | refine WL.nilB ?_ | refine WL.nilT ?_ | refine WL.exit ?_ | refine WL.ret ?_ | refine WL.exT ?_ | refine WL.exB ?_ | refine WL.exN rfl ?_ | refine WL.reT ?_ | refine WL.reB ?_) | ((first | refine WL.reg rfl ?_ | refine WL.regT zai rfl ?_); (conv => { arg 3; simp [prep, prep1] }); (repeat (first | (refine zae ?_ ?_; (focus (simp; done)); (conv => { arg 4; simp (disch := omega) [RF.pv, RF.cells, h] }); (first | (first | refine zaa ?_ | (refine zac ?_; (conv => { arg 5; simp }))))) | (refine zab rfl ?_ ?_; (focus (simp; done))))); with_reducible refine zad ?_; (first | refine ⟨rfl, ?_⟩ | refine ⟨by simp [quietB], by simp [quietU], ?_⟩ | skip)) | (refine WL.cond ?_; (conv => { arg 1; simp (disch := omega) [RF.pv, RF.cells, h] }); with_reducible (first | refine zaj ?_ | refine zak ?_ | refine zag (by omega) ?_ | refine zah (by omega) ?_))))
    refine ⟨[], ?_⟩
    simp (disch := omega) [h]
def longR (l : List RF) (m k : Nat) : Bool := (l.take m).any (fun a => longF a k) || decide (m < l.length)
theorem zfr (l : List RF) (m k : Nat) (hm : m ≤ 1000) (hk : k ≤ 1000) (hl : l.length ≤ 2513169434843) : CallOk Tryz.prog 24 [row l, .int .i64 m, .int .i64 k] [] (.bool (longR l m k)) [] := by
  have hlen := zap l
  refine CallOk.of_wl Tryz.func24 rfl rfl rfl (Nat.le_of_ble_eq_true rfl) ?_
  (repeat (first | with_reducible (first | refine WL.seq ?_ | refine WL.skip ?_ | refine WL.label ?_ | refine WL.block ?_ | refine WL.scope ?_ | refine WL.nilS ?_ | refine WL.reS ?_ | refine WL.exS ?_ | refine WL.nilB ?_ | refine WL.nilT ?_ | refine WL.exit ?_ | refine WL.ret ?_ | refine WL.exT ?_ | refine WL.exB ?_ | refine WL.exN rfl ?_ | refine WL.reT ?_ | refine WL.reB ?_) | ((first | refine WL.reg rfl ?_ | refine WL.regT zai rfl ?_); (conv => { arg 3; simp [prep, prep1] }); (repeat (first | (refine zae ?_ ?_; (focus (simp; done)); (conv => { arg 4; simp (disch := omega) [row] }); (first | (first | refine zaa ?_ | (refine zac ?_; (conv => { arg 5; simp }))))) | (refine zab rfl ?_ ?_; (focus (simp; done))))); with_reducible refine zad ?_; (first | refine ⟨rfl, ?_⟩ | refine ⟨by simp [quietB], by simp [quietU], ?_⟩ | skip)) | (refine WL.cond ?_; (conv => { arg 1; simp (disch := omega) [row] }); with_reducible (first | refine zaj ?_ | refine zak ?_ | refine zag (by omega) ?_ | refine zah (by omega) ?_))))
  refine WL.loop (fun v s => ∃ i : Nat, v = l.length - i ∧ i ≤ l.length ∧ i ≤ m ∧ s.frame 0 = row l ∧ s.frame 1 = .int .i64 m ∧ s.frame 2 = .int .i64 k ∧ s.frame 7 = .int .i64 i ∧ (l.take i).any (fun a => longF a k) = false) l.length ?_ ?_
  · exact ⟨0, by omega, by omega, by omega, by simp [row], by simp, by simp, by simp, by simp⟩
  rintro v ⟨f, σ, g⟩ ⟨i, rfl, hi, him, h0, h1, h2, h7, ha⟩
  simp only at h0 h1 h2 h7
  by_cases hi' : i < l.length
  · by_cases hi2 : i < m
    · have rx := zeh hi'
      have h3l : 3 ≤ (rowC l).length - i * 3 := by omega
      have htk : (l.take (i + 1)).any (fun a => longF a k) = longF (l[i]'hi') k := by
        rw [List.take_succ_eq_append_getElem hi', List.any_append, ha]; simp
      have hmem : l[i]'hi' ∈ l.take m := by
        rw [List.mem_take_iff_getElem]; exact ⟨i, by omega, rfl⟩
      have c1 := zdw (l[i]'hi') k (by omega)
      generalize l[i]'hi' = x at *
      cases hx : longF x k with
      | true =>
        rw [hx] at c1
        (repeat (first | with_reducible (first | refine WL.seq ?_ | refine WL.skip ?_ | refine WL.label ?_ | refine WL.block ?_ | refine WL.scope ?_ | refine WL.nilS ?_ | refine WL.reS ?_ | refine WL.exS ?_ | refine WL.nilB ?_ | refine WL.nilT ?_ | refine WL.exit ?_ | refine WL.ret ?_ | refine WL.exT ?_ | refine WL.exB ?_ | refine WL.exN rfl ?_ | refine WL.reT ?_ | refine WL.reB ?_) | ((first | refine WL.reg rfl ?_ | refine WL.regT zai rfl ?_); (conv => { arg 3; simp [prep, prep1] }); (repeat (first | (refine zae ?_ ?_; (focus (simp; done)); (conv => { arg 4; simp (disch := omega) [h0, h1, h2, h7, row, hi', hi2, rx, h3l, hlen, RF.pv, RF.cells] }); (first | (first | refine zaa ?_ | (refine zac ?_; (conv => { arg 5; simp }))) | (refine zal true rfl rfl ⟨_, Tryz.func12, rfl, rfl⟩ ?_; (conv => { arg 6; simp (disch := omega) [h0, h1, h2, h7, row, hi', hi2, rx, h3l, hlen, RF.pv, RF.cells] }); refine zaf (c1) rfl ?_; (conv => { arg 5; simp (disch := omega) [h0, h1, h2, h7, row, hi', hi2, rx, h3l, hlen, RF.pv, RF.cells] })))) | (refine zab rfl ?_ ?_; (focus (simp; done))))); with_reducible refine zad ?_; (first | refine ⟨rfl, ?_⟩ | refine ⟨by simp [quietB], by simp [quietU], ?_⟩ | skip)) | (refine WL.cond ?_; (conv => { arg 1; simp (disch := omega) [h0, h1, h2, h7, row, hi', hi2, rx, h3l, hlen, RF.pv, RF.cells] }); with_reducible (first | refine zaj ?_ | refine zak ?_ | refine zag (by omega) ?_ | refine zah (by omega) ?_))))
        refine ⟨[], ?_⟩
        have : longR l m k = true := by
          unfold longR
          rw [Bool.or_eq_true, List.any_eq_true]
          exact .inl ⟨x, hmem, hx⟩
        simp (disch := omega) [this]
      | false =>
        rw [hx] at c1 htk
        (repeat (first | with_reducible (first | refine WL.seq ?_ | refine WL.skip ?_ | refine WL.label ?_ | refine WL.block ?_ | refine WL.scope ?_ | refine WL.nilS ?_ | refine WL.reS ?_ | refine WL.exS ?_ | refine WL.nilB ?_ | refine WL.nilT ?_ | refine WL.exit ?_ | refine WL.ret ?_ | refine WL.exT ?_ | refine WL.exB ?_ | refine WL.exN rfl ?_ | refine WL.reT ?_ | refine WL.reB ?_) | ((first | refine WL.reg rfl ?_ | refine WL.regT zai rfl ?_); (conv => { arg 3; simp [prep, prep1] }); (repeat (first | (refine zae ?_ ?_; (focus (simp; done)); (conv => { arg 4; simp (disch := omega) [h0, h1, h2, h7, row, hi', hi2, rx, h3l, hlen, RF.pv, RF.cells] }); (first | (first | refine zaa ?_ | (refine zac ?_; (conv => { arg 5; simp }))) | (refine zal true rfl rfl ⟨_, Tryz.func12, rfl, rfl⟩ ?_; (conv => { arg 6; simp (disch := omega) [h0, h1, h2, h7, row, hi', hi2, rx, h3l, hlen, RF.pv, RF.cells] }); refine zaf (c1) rfl ?_; (conv => { arg 5; simp (disch := omega) [h0, h1, h2, h7, row, hi', hi2, rx, h3l, hlen, RF.pv, RF.cells] })))) | (refine zab rfl ?_ ?_; (focus (simp; done))))); with_reducible refine zad ?_; (first | refine ⟨rfl, ?_⟩ | refine ⟨by simp [quietB], by simp [quietU], ?_⟩ | skip)) | (refine WL.cond ?_; (conv => { arg 1; simp (disch := omega) [h0, h1, h2, h7, row, hi', hi2, rx, h3l, hlen, RF.pv, RF.cells] }); with_reducible (first | refine zaj ?_ | refine zak ?_ | refine zag (by omega) ?_ | refine zah (by omega) ?_))))
        exact ⟨l.length - (i + 1), by omega, i + 1, rfl, by omega, by omega, by simp [h0, row], by simp [h1], by simp [h2], by simp, htk⟩
    · have him' : i = m := by omega
      subst him'
      have e : longR l i k = decide (i < l.length) := by unfold longR; rw [ha]; rfl
      (repeat (first | with_reducible (first | refine WL.seq ?_ | refine WL.skip ?_ | refine WL.label ?_ | refine WL.block ?_ | refine WL.scope ?_ | refine WL.nilS ?_ | refine WL.reS ?_ | refine WL.exS ?_ | refine WL.nilB ?_ | refine WL.nilT ?_ | refine WL.exit ?_ | refine WL.ret ?_ | refine WL.exT ?_ | refine WL.exB ?_ | refine WL.exN rfl ?_ | refine WL.reT ?_ | refine WL.reB ?_) | ((first | refine WL.reg rfl ?_ | refine WL.regT zai rfl ?_); (conv => { arg 3; simp [prep, prep1] }); (repeat (first | (refine zae ?_ ?_; (focus (simp; done)); (conv => { arg 4; simp (disch := omega) [h0, h1, h2, h7, row, hi', hi2] }); (first | (first | refine zaa ?_ | (refine zac ?_; (conv => { arg 5; simp }))))) | (refine zab rfl ?_ ?_; (focus (simp; done))))); with_reducible refine zad ?_; (first | refine ⟨rfl, ?_⟩ | refine ⟨by simp [quietB], by simp [quietU], ?_⟩ | skip)) | (refine WL.cond ?_; (conv => { arg 1; simp (disch := omega) [h0, h1, h2, h7, row, hi', hi2] }); with_reducible (first | refine zaj ?_ | refine zak ?_ | refine zag (by omega) ?_ | refine zah (by omega) ?_))))
      refine ⟨[], ?_⟩
      simp (disch := omega) [e, hi']
  · have hia : i = l.length := by omega
    subst hia
    have e : longR l m k = decide (m < l.length) := by
      unfold longR
      rw [List.take_length] at ha
      rw [List.take_of_length_le him, ha]; rfl
    (repeat (first | with_reducible (first | refine WL.seq ?_ | refine WL.skip ?_ | refine WL.label ?_ | refine WL.block ?_ | refine WL.scope ?_ | refine WL.nilS ?_ | refine WL.reS ?_ | refine WL.exS ?_ | refine WL.nilB ?_ | refine WL.nilT ?_ | refine WL.exit ?_ | refine WL.ret ?_ | refine WL.exT ?_ | refine WL.exB ?_ | refine WL.exN rfl ?_ | refine WL.reT ?_ | refine WL.reB ?_) | ((first | refine WL.reg rfl ?_ | refine WL.regT zai rfl ?_); (conv => { arg 3; simp [prep, prep1] }); (repeat (first | (refine zae ?_ ?_; (focus (simp; done)); (conv => { arg 4; simp (disch := omega) [h0, h1, h2, h7, row, hi'] }); (first | (first | refine zaa ?_ | (refine zac ?_; (conv => { arg 5; simp }))))) | (refine zab rfl ?_ ?_; (focus (simp; done))))); with_reducible refine zad ?_; (first | refine ⟨rfl, ?_⟩ | refine ⟨by simp [quietB], by simp [quietU], ?_⟩ | skip)) | (refine WL.cond ?_; (conv => { arg 1; simp (disch := omega) [h0, h1, h2, h7, row, hi'] }); with_reducible (first | refine zaj ?_ | refine zak ?_ | refine zag (by omega) ?_ | refine zah (by omega) ?_))))
    refine ⟨[], ?_⟩
    simp (disch := omega) [e]
set_option maxHeartbeats 2000000 in
theorem zpy (c : Spn) (h0 : c.y0.length ≤ 2513169434843) (h1 : c.y1.length ≤ 2513169434843) (h2 : c.f0.length ≤ 2513169434843) (h3 : c.f1.length ≤ 2513169434843) : CallOk Tryz.prog 15 [c.pv] [] c.pv [] := by
  have k1 := zic c.t
  have k2 := zic c.h
  have k3 := zkn c.y0 h0
  have k4 := zkn c.y1 h1
  have k5 := zkn c.f0 h2
  have k6 := zkn c.f1 h3
  obtain ⟨t, h, y0, y1, f0, f1⟩ := c
  simp only [Spn.pv, Spn.cells] at *
  refine CallOk.of_wl Tryz.func15 rfl rfl rfl (Nat.le_of_ble_eq_true rfl) ?_
  (repeat (first | with_reducible (first | refine WL.seq ?_ | refine WL.skip ?_ | refine WL.label ?_ | refine WL.block ?_ | refine WL.scope ?_ | refine WL.nilS ?_ | refine WL.reS ?_ | refine WL.exS ?_ | refine WL.nilB ?_ | refine WL.nilT ?_ | refine WL.exit ?_ | refine WL.ret ?_ | refine WL.exT ?_ | refine WL.exB ?_ | refine WL.exN rfl ?_ | refine WL.reT ?_ | refine WL.reB ?_) | ((first | refine WL.reg rfl ?_ | refine WL.regT zai rfl ?_); (conv => { arg 3; simp [prep, prep1] }); (repeat (first | (refine zae ?_ ?_; (focus (simp; done)); (conv => { arg 4; simp (disch := omega) [row, RF.pv, RF.cells] }); (first | (first | refine zaa ?_ | (refine zac ?_; (conv => { arg 5; simp }))) | ((first | refine zal true rfl rfl ⟨_, Tryz.func16, rfl, rfl⟩ ?_ | refine zal true rfl rfl ⟨_, Tryz.func25, rfl, rfl⟩ ?_); (conv => { arg 6; simp (disch := omega) [row, RF.pv, RF.cells] }); (first | refine zaf (k1) rfl ?_ | refine zaf (k2) rfl ?_ | refine zaf (k3) rfl ?_ | refine zaf (k4) rfl ?_ | refine zaf (k5) rfl ?_ | refine zaf (k6) rfl ?_); (conv => { arg 5; simp (disch := omega) [row, RF.pv, RF.cells] })))) | (refine zab rfl ?_ ?_; (focus (simp; done))))); with_reducible refine zad ?_; (first | refine ⟨rfl, ?_⟩ | refine ⟨by simp [quietB], by simp [quietU], ?_⟩ | skip)) | (refine WL.cond ?_; (conv => { arg 1; simp (disch := omega) [row, RF.pv, RF.cells] }); with_reducible (first | refine zaj ?_ | refine zak ?_ | refine zag (by omega) ?_ | refine zah (by omega) ?_))))
  refine ⟨[], ?_⟩
  simp (disch := omega) [row]
def Spn.long (c : Spn) : Bool := longF c.t 2 || longF c.h 2 || longR c.y0 4 2 || longR c.y1 4 2 || longR c.f0 4 2 || longR c.f1 4 2
set_option maxHeartbeats 4000000 in
theorem zib (c : Spn) (h0 : c.y0.length ≤ 2513169434843) (h1 : c.y1.length ≤ 2513169434843) (h2 : c.f0.length ≤ 2513169434843) (h3 : c.f1.length ≤ 2513169434843) : CallOk Tryz.prog 11 [c.pv] [] (.bool c.long) [] := by
  have k1 := zdw c.t 2 (by decide)
  have k2 := zdw c.h 2 (by decide)
  have k3 := zfr c.y0 4 2 (by decide) (by decide) h0
  have k4 := zfr c.y1 4 2 (by decide) (by decide) h1
  have k5 := zfr c.f0 4 2 (by decide) (by decide) h2
  have k6 := zfr c.f1 4 2 (by decide) (by decide) h3
  unfold Spn.long
  generalize longF c.t 2 = b1 at *
  generalize longF c.h 2 = b2 at *
  generalize longR c.y0 4 2 = b3 at *
  generalize longR c.y1 4 2 = b4 at *
  generalize longR c.f0 4 2 = b5 at *
  generalize longR c.f1 4 2 = b6 at *
  obtain ⟨t, h, y0, y1, f0, f1⟩ := c
  simp only [Spn.pv, Spn.cells] at *
  clear h0 h1 h2 h3
  cases b1
  · cases b2
    · cases b3
      · cases b4
        · cases b5
          · refine CallOk.of_wl Tryz.func11 rfl rfl rfl (Nat.le_of_ble_eq_true rfl) ?_
            (repeat (first | with_reducible (first | refine WL.seq ?_ | refine WL.skip ?_ | refine WL.label ?_ | refine WL.block ?_ | refine WL.scope ?_ | refine WL.nilS ?_ | refine WL.reS ?_ | refine WL.exS ?_ | refine WL.nilB ?_ | refine WL.nilT ?_ | refine WL.exit ?_ | refine WL.ret ?_ | refine WL.exT ?_ | refine WL.exB ?_ | refine WL.exN rfl ?_ | refine WL.reT ?_ | refine WL.reB ?_) | ((first | refine WL.reg rfl ?_ | refine WL.regT zai rfl ?_); (conv => { arg 3; simp [prep, prep1] }); (repeat (first | (refine zae ?_ ?_; (focus (simp; done)); (conv => { arg 4; simp (disch := omega) [row, RF.pv, RF.cells] }); (first | (first | refine zaa ?_ | (refine zac ?_; (conv => { arg 5; simp }))) | ((first | refine zal true rfl rfl ⟨_, Tryz.func12, rfl, rfl⟩ ?_ | refine zal true rfl rfl ⟨_, Tryz.func24, rfl, rfl⟩ ?_); (conv => { arg 6; simp (disch := omega) [row, RF.pv, RF.cells] }); (first | refine zaf (k1) rfl ?_ | refine zaf (k2) rfl ?_ | refine zaf (k3) rfl ?_ | refine zaf (k4) rfl ?_ | refine zaf (k5) rfl ?_ | refine zaf (k6) rfl ?_); (conv => { arg 5; simp (disch := omega) [row, RF.pv, RF.cells] })))) | (refine zab rfl ?_ ?_; (focus (simp; done))))); with_reducible refine zad ?_; (first | refine ⟨rfl, ?_⟩ | refine ⟨by simp [quietB], by simp [quietU], ?_⟩ | skip)) | (refine WL.cond ?_; (conv => { arg 1; simp (disch := omega) [row, RF.pv, RF.cells] }); with_reducible (first | refine zaj ?_ | refine zak ?_ | refine zag (by omega) ?_ | refine zah (by omega) ?_))))
            refine ⟨[], ?_⟩
            simp (disch := omega) 
          · refine CallOk.of_wl Tryz.func11 rfl rfl rfl (Nat.le_of_ble_eq_true rfl) ?_
            (repeat (first | with_reducible (first | refine WL.seq ?_ | refine WL.skip ?_ | refine WL.label ?_ | refine WL.block ?_ | refine WL.scope ?_ | refine WL.nilS ?_ | refine WL.reS ?_ | refine WL.exS ?_ | refine WL.nilB ?_ | refine WL.nilT ?_ | refine WL.exit ?_ | refine WL.ret ?_ | refine WL.exT ?_ | refine WL.exB ?_ | refine WL.exN rfl ?_ | refine WL.reT ?_ | refine WL.reB ?_) | ((first | refine WL.reg rfl ?_ | refine WL.regT zai rfl ?_); (conv => { arg 3; simp [prep, prep1] }); (repeat (first | (refine zae ?_ ?_; (focus (simp; done)); (conv => { arg 4; simp (disch := omega) [row, RF.pv, RF.cells] }); (first | (first | refine zaa ?_ | (refine zac ?_; (conv => { arg 5; simp }))) | ((first | refine zal true rfl rfl ⟨_, Tryz.func12, rfl, rfl⟩ ?_ | refine zal true rfl rfl ⟨_, Tryz.func24, rfl, rfl⟩ ?_); (conv => { arg 6; simp (disch := omega) [row, RF.pv, RF.cells] }); (first | refine zaf (k1) rfl ?_ | refine zaf (k2) rfl ?_ | refine zaf (k3) rfl ?_ | refine zaf (k4) rfl ?_ | refine zaf (k5) rfl ?_); (conv => { arg 5; simp (disch := omega) [row, RF.pv, RF.cells] })))) | (refine zab rfl ?_ ?_; (focus (simp; done))))); with_reducible refine zad ?_; (first | refine ⟨rfl, ?_⟩ | refine ⟨by simp [quietB], by simp [quietU], ?_⟩ | skip)) | (refine WL.cond ?_; (conv => { arg 1; simp (disch := omega) [row, RF.pv, RF.cells] }); with_reducible (first | refine zaj ?_ | refine zak ?_ | refine zag (by omega) ?_ | refine zah (by omega) ?_))))
            refine ⟨[], ?_⟩
            simp (disch := omega) 
        · refine CallOk.of_wl Tryz.func11 rfl rfl rfl (Nat.le_of_ble_eq_true rfl) ?_
          (repeat (first | with_reducible (first | refine WL.seq ?_ | refine WL.skip ?_ | refine WL.label ?_ | refine WL.block ?_ | refine WL.scope ?_ | refine WL.nilS ?_ | refine WL.reS ?_ | refine WL.exS ?_ | refine WL.nilB ?_ | refine WL.nilT ?_ | refine WL.exit ?_ | refine WL.ret ?_ | refine WL.exT ?_ | refine WL.exB ?_ | refine WL.exN rfl ?_ | refine WL.reT ?_ | refine WL.reB ?_) | ((first | refine WL.reg rfl ?_ | refine WL.regT zai rfl ?_); (conv => { arg 3; simp [prep, prep1] }); (repeat (first | (refine zae ?_ ?_; (focus (simp; done)); (conv => { arg 4; simp (disch := omega) [row, RF.pv, RF.cells] }); (first | (first | refine zaa ?_ | (refine zac ?_; (conv => { arg 5; simp }))) | ((first | refine zal true rfl rfl ⟨_, Tryz.func12, rfl, rfl⟩ ?_ | refine zal true rfl rfl ⟨_, Tryz.func24, rfl, rfl⟩ ?_); (conv => { arg 6; simp (disch := omega) [row, RF.pv, RF.cells] }); (first | refine zaf (k1) rfl ?_ | refine zaf (k2) rfl ?_ | refine zaf (k3) rfl ?_ | refine zaf (k4) rfl ?_); (conv => { arg 5; simp (disch := omega) [row, RF.pv, RF.cells] })))) | (refine zab rfl ?_ ?_; (focus (simp; done))))); with_reducible refine zad ?_; (first | refine ⟨rfl, ?_⟩ | refine ⟨by simp [quietB], by simp [quietU], ?_⟩ | skip)) | (refine WL.cond ?_; (conv => { arg 1; simp (disch := omega) [row, RF.pv, RF.cells] }); with_reducible (first | refine zaj ?_ | refine zak ?_ | refine zag (by omega) ?_ | refine zah (by omega) ?_))))
          refine ⟨[], ?_⟩
          simp (disch := omega) 
      · refine CallOk.of_wl Tryz.func11 rfl rfl rfl (Nat.le_of_ble_eq_true rfl) ?_
        (repeat (first | with_reducible (first | refine WL.seq ?_ | refine WL.skip ?_ | refine WL.label ?_ | refine WL.block ?_ | refine WL.scope ?_ | refine WL.nilS ?_ | refine WL.reS ?_ | refine WL.exS ?_ | refine WL.nilB ?_ | refine WL.nilT ?_ | refine WL.exit ?_ | refine WL.ret ?_ | refine WL.exT ?_ | refine WL.exB ?_ | refine WL.exN rfl ?_ | refine WL.reT ?_ | refine WL.reB ?_) | ((first | refine WL.reg rfl ?_ | refine WL.regT zai rfl ?_); (conv => { arg 3; simp [prep, prep1] }); (repeat (first | (refine zae ?_ ?_; (focus (simp; done)); (conv => { arg 4; simp (disch := omega) [row, RF.pv, RF.cells] }); (first | (first | refine zaa ?_ | (refine zac ?_; (conv => { arg 5; simp }))) | ((first | refine zal true rfl rfl ⟨_, Tryz.func12, rfl, rfl⟩ ?_ | refine zal true rfl rfl ⟨_, Tryz.func24, rfl, rfl⟩ ?_); (conv => { arg 6; simp (disch := omega) [row, RF.pv, RF.cells] }); (first | refine zaf (k1) rfl ?_ | refine zaf (k2) rfl ?_ | refine zaf (k3) rfl ?_); (conv => { arg 5; simp (disch := omega) [row, RF.pv, RF.cells] })))) | (refine zab rfl ?_ ?_; (focus (simp; done))))); with_reducible refine zad ?_; (first | refine ⟨rfl, ?_⟩ | refine ⟨by simp [quietB], by simp [quietU], ?_⟩ | skip)) | (refine WL.cond ?_; (conv => { arg 1; simp (disch := omega) [row, RF.pv, RF.cells] }); with_reducible (first | refine zaj ?_ | refine zak ?_ | refine zag (by omega) ?_ | refine zah (by omega) ?_))))
        refine ⟨[], ?_⟩
        simp (disch := omega) 
    · refine CallOk.of_wl Tryz.func11 rfl rfl rfl (Nat.le_of_ble_eq_true rfl) ?_
      (repeat (first | with_reducible (first | refine WL.seq ?_ | refine WL.skip ?_ | refine WL.label ?_ | refine WL.block ?_ | refine WL.scope ?_ | refine WL.nilS ?_ | refine WL.reS ?_ | refine WL.exS ?_ | refine WL.nilB ?_ | refine WL.nilT ?_ | refine WL.exit ?_ | refine WL.ret ?_ | refine WL.exT ?_ | refine WL.exB ?_ | refine WL.exN rfl ?_ | refine WL.reT ?_ | refine WL.reB ?_) | ((first | refine WL.reg rfl ?_ | refine WL.regT zai rfl ?_); (conv => { arg 3; simp [prep, prep1] }); (repeat (first | (refine zae ?_ ?_; (focus (simp; done)); (conv => { arg 4; simp (disch := omega) [row, RF.pv, RF.cells] }); (first | (first | refine zaa ?_ | (refine zac ?_; (conv => { arg 5; simp }))) | (refine zal true rfl rfl ⟨_, Tryz.func12, rfl, rfl⟩ ?_; (conv => { arg 6; simp (disch := omega) [row, RF.pv, RF.cells] }); (first | refine zaf (k1) rfl ?_ | refine zaf (k2) rfl ?_); (conv => { arg 5; simp (disch := omega) [row, RF.pv, RF.cells] })))) | (refine zab rfl ?_ ?_; (focus (simp; done))))); with_reducible refine zad ?_; (first | refine ⟨rfl, ?_⟩ | refine ⟨by simp [quietB], by simp [quietU], ?_⟩ | skip)) | (refine WL.cond ?_; (conv => { arg 1; simp (disch := omega) [row, RF.pv, RF.cells] }); with_reducible (first | refine zaj ?_ | refine zak ?_ | refine zag (by omega) ?_ | refine zah (by omega) ?_))))
      refine ⟨[], ?_⟩
      simp (disch := omega) 
  · refine CallOk.of_wl Tryz.func11 rfl rfl rfl (Nat.le_of_ble_eq_true rfl) ?_
    (repeat (first | with_reducible (first | refine WL.seq ?_ | refine WL.skip ?_ | refine WL.label ?_ | refine WL.block ?_ | refine WL.scope ?_ | refine WL.nilS ?_ | refine WL.reS ?_ | refine WL.exS ?_ | refine WL.nilB ?_ | refine WL.nilT ?_ | refine WL.exit ?_ | refine WL.ret ?_ | refine WL.exT ?_ | refine WL.exB ?_ | refine WL.exN rfl ?_ | refine WL.reT ?_ | refine WL.reB ?_) | ((first | refine WL.reg rfl ?_ | refine WL.regT zai rfl ?_); (conv => { arg 3; simp [prep, prep1] }); (repeat (first | (refine zae ?_ ?_; (focus (simp; done)); (conv => { arg 4; simp (disch := omega) [row, RF.pv, RF.cells] }); (first | (first | refine zaa ?_ | (refine zac ?_; (conv => { arg 5; simp }))) | (refine zal true rfl rfl ⟨_, Tryz.func12, rfl, rfl⟩ ?_; (conv => { arg 6; simp (disch := omega) [row, RF.pv, RF.cells] }); refine zaf (k1) rfl ?_; (conv => { arg 5; simp (disch := omega) [row, RF.pv, RF.cells] })))) | (refine zab rfl ?_ ?_; (focus (simp; done))))); with_reducible refine zad ?_; (first | refine ⟨rfl, ?_⟩ | refine ⟨by simp [quietB], by simp [quietU], ?_⟩ | skip)) | (refine WL.cond ?_; (conv => { arg 1; simp (disch := omega) [row, RF.pv, RF.cells] }); with_reducible (first | refine zaj ?_ | refine zak ?_ | refine zag (by omega) ?_ | refine zah (by omega) ?_))))
    refine ⟨[], ?_⟩
    simp (disch := omega) 
end Go.Proofs.YthgldcflcmlgpaaGreatDoorE
end
section
/- What is not too long is within bounds; two rows of the same values are the same. -/
set_option linter.unusedVariables false
set_option linter.unusedSimpArgs false
namespace Go.Proofs.YthgldcflcmlgpaaGreatDoorE
open Go.RowKit
set_option maxRecDepth 100000
attribute [local simp] List.getElem?_cons_zero List.getElem?_cons_succ List.getElem?_nil wrap_i64 stOf st0 effF effC evalV evalL zfd zcr pv_t pv_c pv_g pv_f ofConst binV binI lenV foldV mx2 mn2 unV convV extractV idxV indexV fieldAddrV fieldV partV sliceV boundsV loadL live storeE appendE srcV litE makeE IntKind.bits copyE boxE allocE flatParts flatCs flatC allParts cellsOf solid leafB fillL frzL buildV fillP placeS eqFl eqCell St.eff St.put wrs callE renP renA renC renI nid newL renB noEff endK endR resA resL resV expP expA expC expN expL expBs expB idx thenQ blockQ wantK if_pos if_neg wrap_u32 zas beqI bneI w32 wl zar Int.natCast_inj effG
attribute [local simp ↓] effG effC evalV evalL pv_t pv_c pv_g pv_f zfd zcr live
def RF.wfR (a : RF) : Prop := wf a.n ∧ wf a.d
structure Spn.wfS (c : Spn) : Prop where
  t : c.t.wfR
  h : c.h.wfR
  y0 : ∀ x ∈ c.y0, x.wfR
  y1 : ∀ x ∈ c.y1, x.wfR
  f0 : ∀ x ∈ c.f0, x.wfR
  f1 : ∀ x ∈ c.f1, x.wfR
theorem zfw {a : RF} {k : Nat} (h : longF a k = false) (hw : a.wfR) : a.ok k := by
  simp only [longF, Bool.or_eq_false_iff, decide_eq_false_iff_not] at h
  exact ⟨hw.1, hw.2, by omega, by omega⟩
theorem zhd {l : List RF} {m k : Nat} (h : longR l m k = false) (hw : ∀ x ∈ l, x.wfR) : (∀ x ∈ l, x.ok k) ∧ l.length ≤ m := by
  simp only [longR, Bool.or_eq_false_iff, decide_eq_false_iff_not] at h
  obtain ⟨h1, h2⟩ := h
  rw [List.take_of_length_le (by omega), List.any_eq_false] at h1
  exact ⟨fun x hx => zfw (by simpa using h1 x hx) (hw x hx), by omega⟩
theorem Spn.long_no {c : Spn} (h : c.long = false) (hw : c.wfS) : c.ok 2 ∧ c.y0.length ≤ 4 ∧ c.y1.length ≤ 4 ∧ c.f0.length ≤ 4 ∧ c.f1.length ≤ 4 := by
  simp only [Spn.long, Bool.or_eq_false_iff] at h
  obtain ⟨⟨⟨⟨⟨a, b⟩, d⟩, e⟩, f⟩, g⟩ := h
  obtain ⟨d1, d2⟩ := zhd d hw.y0
  obtain ⟨e1, e2⟩ := zhd e hw.y1
  obtain ⟨f1, f2⟩ := zhd f hw.f0
  obtain ⟨g1, g2⟩ := zhd g hw.f1
  exact ⟨⟨zfw a hw.t, zfw b hw.h, d1, e1, f1, g1⟩, d2, e2, f2, g2⟩
theorem Spn.ok.mono {c : Spn} {k m : Nat} (h : c.ok k) (hk : k ≤ m) : c.ok m :=
  ⟨h.t.mono hk, h.h.mono hk, fun x hx => (h.y0 x hx).mono hk, fun x hx => (h.y1 x hx).mono hk, fun x hx => (h.f0 x hx).mono hk, fun x hx => (h.f1 x hx).mono hk⟩
end Go.Proofs.YthgldcflcmlgpaaGreatDoorE
end
section
/- The document's whole numbers and its right fractions. -/
set_option linter.unusedVariables false
set_option linter.unusedSimpArgs false
namespace Go.Proofs.YthgldcflcmlgpaaGreatDoorE
open Go.RowKit
set_option maxRecDepth 100000
attribute [local simp] List.getElem?_cons_zero List.getElem?_cons_succ List.getElem?_nil wrap_i64 stOf st0 effF effC evalV evalL zfd zcr pv_t pv_c pv_g pv_f ofConst binV binI lenV foldV mx2 mn2 unV convV extractV idxV indexV fieldAddrV fieldV partV sliceV boundsV loadL live storeE appendE srcV litE makeE IntKind.bits copyE boxE allocE flatParts flatCs flatC allParts cellsOf solid leafB fillL frzL buildV fillP placeS eqFl eqCell St.eff St.put wrs callE renP renA renC renI nid newL renB noEff endK endR resA resL resV expP expA expC expN expL expBs expB idx thenQ blockQ wantK if_pos if_neg wrap_u32 zas beqI bneI w32 wl zar Int.natCast_inj
theorem zio (s : Bool) (n : Nat) : decide (zs s n < 0) = (s && decide (0 < n)) := by
  cases s <;> simp [zs] <;> omega
theorem zkf (s : Bool) (n : List Nat) (hn : wf n) (hl : n.length ≤ 1099511627776) : CallOk Tryz.prog 179 [wh s n] [] (whZ (zs s (val n))) [] := by
  have c1 := zdp n hn (by omega)
  have e : whZ (zs s (val n)) = wh (s && decide (0 < (nw (val n)).length)) (nw (val n)) := by
    unfold whZ
    rw [zgs, zio]
    congr 2
    exact decide_eq_decide.2 ⟨fun h => nw_pos_len.2 h, fun h => nw_pos_len.1 h⟩
  rw [e]
  generalize nw (val n) = N at *
  cases s
  · refine CallOk.of_wl Tryz.func179 rfl rfl rfl (Nat.le_of_ble_eq_true rfl) ?_
    (repeat (first | with_reducible (first | refine WL.seq ?_ | refine WL.skip ?_ | refine WL.label ?_ | refine WL.block ?_ | refine WL.scope ?_ | refine WL.nilS ?_ | refine WL.reS ?_ | refine WL.exS ?_ | refine WL.nilB ?_ | refine WL.nilT ?_ | refine WL.exit ?_ | refine WL.ret ?_ | refine WL.exT ?_ | refine WL.exB ?_ | refine WL.exN rfl ?_ | refine WL.reT ?_ | refine WL.reB ?_) | ((first | refine WL.reg rfl ?_ | refine WL.regT zai rfl ?_); (conv => { arg 3; simp [prep, prep1] }); (repeat (first | (refine zae ?_ ?_; (focus (simp; done)); (conv => { arg 4; simp (disch := omega) [wh] }); (first | (first | refine zaa ?_ | (refine zac ?_; (conv => { arg 5; simp }))) | (refine zal true rfl rfl ⟨_, Tryz.func68, rfl, rfl⟩ ?_; (conv => { arg 6; simp (disch := omega) [wh] }); refine zaf (c1) rfl ?_; (conv => { arg 5; simp (disch := omega) [wh] })))) | (refine zab rfl ?_ ?_; (focus (simp; done))))); with_reducible refine zad ?_; (first | refine ⟨rfl, ?_⟩ | refine ⟨by simp [quietB], by simp [quietU], ?_⟩ | skip)) | (refine WL.cond ?_; (conv => { arg 1; simp (disch := omega) [wh] }); with_reducible (first | refine zaj ?_ | refine zak ?_ | refine zag (by omega) ?_ | refine zah (by omega) ?_))))
    refine ⟨[], ?_⟩
    simp (disch := omega) [wh]
  · refine CallOk.of_wl Tryz.func179 rfl rfl rfl (Nat.le_of_ble_eq_true rfl) ?_
    (repeat (first | with_reducible (first | refine WL.seq ?_ | refine WL.skip ?_ | refine WL.label ?_ | refine WL.block ?_ | refine WL.scope ?_ | refine WL.nilS ?_ | refine WL.reS ?_ | refine WL.exS ?_ | refine WL.nilB ?_ | refine WL.nilT ?_ | refine WL.exit ?_ | refine WL.ret ?_ | refine WL.exT ?_ | refine WL.exB ?_ | refine WL.exN rfl ?_ | refine WL.reT ?_ | refine WL.reB ?_) | ((first | refine WL.reg rfl ?_ | refine WL.regT zai rfl ?_); (conv => { arg 3; simp [prep, prep1] }); (repeat (first | (refine zae ?_ ?_; (focus (simp; done)); (conv => { arg 4; simp (disch := omega) [wh] }); (first | (first | refine zaa ?_ | (refine zac ?_; (conv => { arg 5; simp }))) | (refine zal true rfl rfl ⟨_, Tryz.func68, rfl, rfl⟩ ?_; (conv => { arg 6; simp (disch := omega) [wh] }); refine zaf (c1) rfl ?_; (conv => { arg 5; simp (disch := omega) [wh] })))) | (refine zab rfl ?_ ?_; (focus (simp; done))))); with_reducible refine zad ?_; (first | refine ⟨rfl, ?_⟩ | refine ⟨by simp [quietB], by simp [quietU], ?_⟩ | skip)) | (refine WL.cond ?_; (conv => { arg 1; simp (disch := omega) [wh] }); with_reducible (first | refine zaj ?_ | refine zak ?_ | refine zag (by omega) ?_ | refine zah (by omega) ?_))))
    refine ⟨[], ?_⟩
    simp (disch := omega) [wh]
theorem refWAdd (s t : Bool) (n m : List Nat) (hn : wf n) (hm : wf m) (ln : n.length ≤ 274877906944) (lm : m.length ≤ 274877906944) : CallOk Tryz.prog 148 [wh s n, wh t m] [] (whZ (zv s n + zv t m)) [] := by
  by_cases hst : s = t
  · subst hst
    have c1 := zra n m hn hm ln lm
    have hl : (nw (val n + val m)).length ≤ 274877906945 := by
      have h1 := zpw (val n) (val m)
      have h2 := zao hn
      have h3 := zao hm
      omega
    have c2 := zkf s (nw (val n + val m)) (zaq _) (by omega)
    rw [zam] at c2
    have e : zs s (val n + val m) = zv s n + zv s m := by unfold zv; cases s <;> simp [zs] <;> omega
    rw [e] at c2
    generalize zv s n + zv s m = z at *
    generalize nw (val n + val m) = N at *
    refine CallOk.of_wl Tryz.func148 rfl rfl rfl (Nat.le_of_ble_eq_true rfl) ?_
    (repeat (first | with_reducible (first | refine WL.seq ?_ | refine WL.skip ?_ | refine WL.label ?_ | refine WL.block ?_ | refine WL.scope ?_ | refine WL.nilS ?_ | refine WL.reS ?_ | refine WL.exS ?_ | refine WL.nilB ?_ | refine WL.nilT ?_ | refine WL.exit ?_ | refine WL.ret ?_ | refine WL.exT ?_ | refine WL.exB ?_ | refine WL.exN rfl ?_ | refine WL.reT ?_ | refine WL.reB ?_) | ((first | refine WL.reg rfl ?_ | refine WL.regT zai rfl ?_); (conv => { arg 3; simp [prep, prep1] }); (repeat (first | (refine zae ?_ ?_; (focus (simp; done)); (conv => { arg 4; simp (disch := omega) [wh] }); (first | (first | refine zaa ?_ | (refine zac ?_; (conv => { arg 5; simp }))) | ((first | refine zal true rfl rfl ⟨_, Tryz.func94, rfl, rfl⟩ ?_ | refine zal true rfl rfl ⟨_, Tryz.func179, rfl, rfl⟩ ?_); (conv => { arg 6; simp (disch := omega) [wh] }); (first | refine zaf (c1) rfl ?_ | refine zaf (c2) rfl ?_); (conv => { arg 5; simp (disch := omega) [wh] })))) | (refine zab rfl ?_ ?_; (focus (simp; done))))); with_reducible refine zad ?_; (first | refine ⟨rfl, ?_⟩ | refine ⟨by simp [quietB], by simp [quietU], ?_⟩ | skip)) | (refine WL.cond ?_; (conv => { arg 1; simp (disch := omega) [wh] }); with_reducible (first | refine zaj ?_ | refine zak ?_ | refine zag (by omega) ?_ | refine zah (by omega) ?_))))
    refine ⟨[], ?_⟩
    simp (disch := omega) [whZ, wh]
  · have c0 := zps n m hn hm (by omega) (by omega)
    by_cases hlt : val n < val m
    · have hc : cmpI (val n) (val m) = -1 := by unfold cmpI; rw [if_pos hlt]
      rw [hc] at c0
      have c1 := zqx m n hm hn lm ln (by omega)
      have hl : (nw (val m - val n)).length ≤ 274877906944 := Nat.le_trans (zat (Nat.sub_le _ _)) (Nat.le_trans (zao hm) lm)
      have c2 := zkf t (nw (val m - val n)) (zaq _) (by omega)
      rw [zam] at c2
      have e : zs t (val m - val n) = zv s n + zv t m := by unfold zv; cases s <;> cases t <;> simp_all [zs] <;> omega
      rw [e] at c2
      generalize zv s n + zv t m = z at *
      generalize nw (val m - val n) = N at *
      cases s
      · cases t
        · exact absurd rfl hst
        · clear hst
          refine CallOk.of_wl Tryz.func148 rfl rfl rfl (Nat.le_of_ble_eq_true rfl) ?_
          (repeat (first | with_reducible (first | refine WL.seq ?_ | refine WL.skip ?_ | refine WL.label ?_ | refine WL.block ?_ | refine WL.scope ?_ | refine WL.nilS ?_ | refine WL.reS ?_ | refine WL.exS ?_ | refine WL.nilB ?_ | refine WL.nilT ?_ | refine WL.exit ?_ | refine WL.ret ?_ | refine WL.exT ?_ | refine WL.exB ?_ | refine WL.exN rfl ?_ | refine WL.reT ?_ | refine WL.reB ?_) | ((first | refine WL.reg rfl ?_ | refine WL.regT zai rfl ?_); (conv => { arg 3; simp [prep, prep1] }); (repeat (first | (refine zae ?_ ?_; (focus (simp; done)); (conv => { arg 4; simp (disch := omega) [wh] }); (first | (first | refine zaa ?_ | (refine zac ?_; (conv => { arg 5; simp }))) | ((first | refine zal true rfl rfl ⟨_, Tryz.func110, rfl, rfl⟩ ?_ | refine zal true rfl rfl ⟨_, Tryz.func187, rfl, rfl⟩ ?_ | refine zal true rfl rfl ⟨_, Tryz.func179, rfl, rfl⟩ ?_); (conv => { arg 6; simp (disch := omega) [wh] }); (first | refine zaf (c0) rfl ?_ | refine zaf (c1) rfl ?_ | refine zaf (c2) rfl ?_); (conv => { arg 5; simp (disch := omega) [wh] })))) | (refine zab rfl ?_ ?_; (focus (simp; done))))); with_reducible refine zad ?_; (first | refine ⟨rfl, ?_⟩ | refine ⟨by simp [quietB], by simp [quietU], ?_⟩ | skip)) | (refine WL.cond ?_; (conv => { arg 1; simp (disch := omega) [wh] }); with_reducible (first | refine zaj ?_ | refine zak ?_ | refine zag (by omega) ?_ | refine zah (by omega) ?_))))
          refine ⟨[], ?_⟩
          simp (disch := omega) [whZ, wh]
      · cases t
        · clear hst
          refine CallOk.of_wl Tryz.func148 rfl rfl rfl (Nat.le_of_ble_eq_true rfl) ?_
          (repeat (first | with_reducible (first | refine WL.seq ?_ | refine WL.skip ?_ | refine WL.label ?_ | refine WL.block ?_ | refine WL.scope ?_ | refine WL.nilS ?_ | refine WL.reS ?_ | refine WL.exS ?_ | refine WL.nilB ?_ | refine WL.nilT ?_ | refine WL.exit ?_ | refine WL.ret ?_ | refine WL.exT ?_ | refine WL.exB ?_ | refine WL.exN rfl ?_ | refine WL.reT ?_ | refine WL.reB ?_) | ((first | refine WL.reg rfl ?_ | refine WL.regT zai rfl ?_); (conv => { arg 3; simp [prep, prep1] }); (repeat (first | (refine zae ?_ ?_; (focus (simp; done)); (conv => { arg 4; simp (disch := omega) [wh] }); (first | (first | refine zaa ?_ | (refine zac ?_; (conv => { arg 5; simp }))) | ((first | refine zal true rfl rfl ⟨_, Tryz.func110, rfl, rfl⟩ ?_ | refine zal true rfl rfl ⟨_, Tryz.func187, rfl, rfl⟩ ?_ | refine zal true rfl rfl ⟨_, Tryz.func179, rfl, rfl⟩ ?_); (conv => { arg 6; simp (disch := omega) [wh] }); (first | refine zaf (c0) rfl ?_ | refine zaf (c1) rfl ?_ | refine zaf (c2) rfl ?_); (conv => { arg 5; simp (disch := omega) [wh] })))) | (refine zab rfl ?_ ?_; (focus (simp; done))))); with_reducible refine zad ?_; (first | refine ⟨rfl, ?_⟩ | refine ⟨by simp [quietB], by simp [quietU], ?_⟩ | skip)) | (refine WL.cond ?_; (conv => { arg 1; simp (disch := omega) [wh] }); with_reducible (first | refine zaj ?_ | refine zak ?_ | refine zag (by omega) ?_ | refine zah (by omega) ?_))))
          refine ⟨[], ?_⟩
          simp (disch := omega) [whZ, wh]
        · exact absurd rfl hst
    · have hc : ¬ cmpI (val n) (val m) < 0 := by unfold cmpI; rw [if_neg hlt]; split <;> simp
      have c1 := zqx n m hn hm ln lm (by omega)
      have hl : (nw (val n - val m)).length ≤ 274877906944 := Nat.le_trans (zat (Nat.sub_le _ _)) (Nat.le_trans (zao hn) ln)
      have c2 := zkf s (nw (val n - val m)) (zaq _) (by omega)
      rw [zam] at c2
      have e : zs s (val n - val m) = zv s n + zv t m := by unfold zv; cases s <;> cases t <;> simp_all [zs] <;> omega
      rw [e] at c2
      generalize zv s n + zv t m = z at *
      generalize nw (val n - val m) = N at *
      generalize cmpI (val n) (val m) = cc at *
      cases s
      · cases t
        · exact absurd rfl hst
        · clear hst
          refine CallOk.of_wl Tryz.func148 rfl rfl rfl (Nat.le_of_ble_eq_true rfl) ?_
          (repeat (first | with_reducible (first | refine WL.seq ?_ | refine WL.skip ?_ | refine WL.label ?_ | refine WL.block ?_ | refine WL.scope ?_ | refine WL.nilS ?_ | refine WL.reS ?_ | refine WL.exS ?_ | refine WL.nilB ?_ | refine WL.nilT ?_ | refine WL.exit ?_ | refine WL.ret ?_ | refine WL.exT ?_ | refine WL.exB ?_ | refine WL.exN rfl ?_ | refine WL.reT ?_ | refine WL.reB ?_) | ((first | refine WL.reg rfl ?_ | refine WL.regT zai rfl ?_); (conv => { arg 3; simp [prep, prep1] }); (repeat (first | (refine zae ?_ ?_; (focus (simp; done)); (conv => { arg 4; simp (disch := omega) [wh, hc] }); (first | (first | refine zaa ?_ | (refine zac ?_; (conv => { arg 5; simp }))) | ((first | refine zal true rfl rfl ⟨_, Tryz.func110, rfl, rfl⟩ ?_ | refine zal true rfl rfl ⟨_, Tryz.func187, rfl, rfl⟩ ?_ | refine zal true rfl rfl ⟨_, Tryz.func179, rfl, rfl⟩ ?_); (conv => { arg 6; simp (disch := omega) [wh, hc] }); (first | refine zaf (c0) rfl ?_ | refine zaf (c1) rfl ?_ | refine zaf (c2) rfl ?_); (conv => { arg 5; simp (disch := omega) [wh, hc] })))) | (refine zab rfl ?_ ?_; (focus (simp; done))))); with_reducible refine zad ?_; (first | refine ⟨rfl, ?_⟩ | refine ⟨by simp [quietB], by simp [quietU], ?_⟩ | skip)) | (refine WL.cond ?_; (conv => { arg 1; simp (disch := omega) [wh, hc] }); with_reducible (first | refine zaj ?_ | refine zak ?_ | refine zag (by omega) ?_ | refine zah (by omega) ?_))))
          refine ⟨[], ?_⟩
          simp (disch := omega) [whZ, wh]
      · cases t
        · clear hst
          refine CallOk.of_wl Tryz.func148 rfl rfl rfl (Nat.le_of_ble_eq_true rfl) ?_
          (repeat (first | with_reducible (first | refine WL.seq ?_ | refine WL.skip ?_ | refine WL.label ?_ | refine WL.block ?_ | refine WL.scope ?_ | refine WL.nilS ?_ | refine WL.reS ?_ | refine WL.exS ?_ | refine WL.nilB ?_ | refine WL.nilT ?_ | refine WL.exit ?_ | refine WL.ret ?_ | refine WL.exT ?_ | refine WL.exB ?_ | refine WL.exN rfl ?_ | refine WL.reT ?_ | refine WL.reB ?_) | ((first | refine WL.reg rfl ?_ | refine WL.regT zai rfl ?_); (conv => { arg 3; simp [prep, prep1] }); (repeat (first | (refine zae ?_ ?_; (focus (simp; done)); (conv => { arg 4; simp (disch := omega) [wh, hc] }); (first | (first | refine zaa ?_ | (refine zac ?_; (conv => { arg 5; simp }))) | ((first | refine zal true rfl rfl ⟨_, Tryz.func110, rfl, rfl⟩ ?_ | refine zal true rfl rfl ⟨_, Tryz.func187, rfl, rfl⟩ ?_ | refine zal true rfl rfl ⟨_, Tryz.func179, rfl, rfl⟩ ?_); (conv => { arg 6; simp (disch := omega) [wh, hc] }); (first | refine zaf (c0) rfl ?_ | refine zaf (c1) rfl ?_ | refine zaf (c2) rfl ?_); (conv => { arg 5; simp (disch := omega) [wh, hc] })))) | (refine zab rfl ?_ ?_; (focus (simp; done))))); with_reducible refine zad ?_; (first | refine ⟨rfl, ?_⟩ | refine ⟨by simp [quietB], by simp [quietU], ?_⟩ | skip)) | (refine WL.cond ?_; (conv => { arg 1; simp (disch := omega) [wh, hc] }); with_reducible (first | refine zaj ?_ | refine zak ?_ | refine zag (by omega) ?_ | refine zah (by omega) ?_))))
          refine ⟨[], ?_⟩
          simp (disch := omega) [whZ, wh]
        · exact absurd rfl hst
theorem zfq (s : Bool) (n d : List Nat) (hn : wf n) (hd : wf d) (ln : n.length ≤ 34359738368) (ld : d.length ≤ 34359738368) : CallOk Tryz.prog 21 [fr s n d] [] (frQ (qv s n d)) [] := by
  have c1 := zdp d hd (by omega)
  have c2 := zdp n hn (by omega)
  have hn1 := zao hn
  have hd1 := zao hd
  by_cases h0 : val d = 0
  · have e : frQ (qv s n d) = fr false [] [1] := by
      unfold qv; rw [h0, Rat.mkRat_zero]
      rw [show (0 : Rat) = ((0 : Int) : Rat) from rfl, zmu]
      simp [zaw, zft]
    rw [e]
    rw [h0, zaw] at c1
    refine CallOk.of_wl Tryz.func21 rfl rfl rfl (Nat.le_of_ble_eq_true rfl) ?_
    (repeat (first | with_reducible (first | refine WL.seq ?_ | refine WL.skip ?_ | refine WL.label ?_ | refine WL.block ?_ | refine WL.scope ?_ | refine WL.nilS ?_ | refine WL.reS ?_ | refine WL.exS ?_ | refine WL.nilB ?_ | refine WL.nilT ?_ | refine WL.exit ?_ | refine WL.ret ?_ | refine WL.exT ?_ | refine WL.exB ?_ | refine WL.exN rfl ?_ | refine WL.reT ?_ | refine WL.reB ?_) | ((first | refine WL.reg rfl ?_ | refine WL.regT zai rfl ?_); (conv => { arg 3; simp [prep, prep1] }); (repeat (first | (refine zae ?_ ?_; (focus (simp; done)); (conv => { arg 4; simp (disch := omega) [fr, ws] }); (first | (first | refine zaa ?_ | (refine zac ?_; (conv => { arg 5; simp }))) | (refine zal true rfl rfl ⟨_, Tryz.func68, rfl, rfl⟩ ?_; (conv => { arg 6; simp (disch := omega) [fr, ws] }); (first | refine zaf (c1) rfl ?_ | refine zaf (c2) rfl ?_); (conv => { arg 5; simp (disch := omega) [fr, ws] })))) | (refine zab rfl ?_ ?_; (focus (simp; done))))); with_reducible refine zad ?_; (first | refine ⟨rfl, ?_⟩ | refine ⟨by simp [quietB], by simp [quietU], ?_⟩ | skip)) | (refine WL.cond ?_; (conv => { arg 1; simp (disch := omega) [fr, ws] }); with_reducible (first | refine zaj ?_ | refine zak ?_ | refine zag (by omega) ?_ | refine zah (by omega) ?_))))
    refine ⟨[], ?_⟩
    simp (disch := omega) [fr, ws, w32]
  by_cases hz : val n = 0
  · have e : frQ (qv s n d) = fr false [] [1] := by
      unfold qv zv; rw [hz, show zs s 0 = 0 by cases s <;> rfl, Rat.zero_mkRat]
      rw [show (0 : Rat) = ((0 : Int) : Rat) from rfl, zmu]
      simp [zaw, zft]
    rw [e]
    rw [hz, zaw] at c2
    have hd2 : ¬ nw (val d) = [] := fun h => h0 (zdi (by rw [h]; rfl))
    have hd3 : ¬ (nw (val d)).length = 0 := fun h => h0 (zdi h)
    generalize nw (val d) = D at *
    refine CallOk.of_wl Tryz.func21 rfl rfl rfl (Nat.le_of_ble_eq_true rfl) ?_
    (repeat (first | with_reducible (first | refine WL.seq ?_ | refine WL.skip ?_ | refine WL.label ?_ | refine WL.block ?_ | refine WL.scope ?_ | refine WL.nilS ?_ | refine WL.reS ?_ | refine WL.exS ?_ | refine WL.nilB ?_ | refine WL.nilT ?_ | refine WL.exit ?_ | refine WL.ret ?_ | refine WL.exT ?_ | refine WL.exB ?_ | refine WL.exN rfl ?_ | refine WL.reT ?_ | refine WL.reB ?_) | ((first | refine WL.reg rfl ?_ | refine WL.regT zai rfl ?_); (conv => { arg 3; simp [prep, prep1] }); (repeat (first | (refine zae ?_ ?_; (focus (simp; done)); (conv => { arg 4; simp (disch := omega) [fr, ws, hd2, hd3] }); (first | (first | refine zaa ?_ | (refine zac ?_; (conv => { arg 5; simp }))) | (refine zal true rfl rfl ⟨_, Tryz.func68, rfl, rfl⟩ ?_; (conv => { arg 6; simp (disch := omega) [fr, ws, hd2, hd3] }); (first | refine zaf (c1) rfl ?_ | refine zaf (c2) rfl ?_); (conv => { arg 5; simp (disch := omega) [fr, ws, hd2, hd3] })))) | (refine zab rfl ?_ ?_; (focus (simp; done))))); with_reducible refine zad ?_; (first | refine ⟨rfl, ?_⟩ | refine ⟨by simp [quietB], by simp [quietU], ?_⟩ | skip)) | (refine WL.cond ?_; (conv => { arg 1; simp (disch := omega) [fr, ws, hd2, hd3] }); with_reducible (first | refine zaj ?_ | refine zak ?_ | refine zag (by omega) ?_ | refine zah (by omega) ?_))))
    refine ⟨[], ?_⟩
    simp (disch := omega) [fr, ws, w32]
  have hd2 : ¬ nw (val d) = [] := fun h => h0 (zdi (by rw [h]; rfl))
  have hd3 : ¬ (nw (val d)).length = 0 := fun h => h0 (zdi h)
  have hn2 : ¬ nw (val n) = [] := fun h => hz (zdi (by rw [h]; rfl))
  have hn3 : ¬ (nw (val n)).length = 0 := fun h => hz (zdi h)
  have cO := zqz (nw (val d)) (by omega)
  have hg0 : 0 < Nat.gcd (val n) (val d) := Nat.gcd_pos_of_pos_left _ (by omega)
  have e : frQ (qv s n d) = fr s (nw (val n / Nat.gcd (val n) (val d))) (nw (val d / Nat.gcd (val n) (val d))) := by
    unfold qv zv
    rw [zre _ _ _ h0, zio]
    have : 0 < val n / Nat.gcd (val n) (val d) := Nat.div_pos (Nat.le_of_dvd (by omega) (Nat.gcd_dvd_left _ _)) hg0
    rw [decide_eq_true this]; cases s <;> rfl
  rw [e]
  by_cases h1 : nw (val d) = [1]
  · have hv1 : val d = 1 := by have := zam (val d); rw [h1] at this; simp [val] at this; omega
    rw [decide_eq_true h1] at cO
    rw [hv1, Nat.gcd_one_right, Nat.div_one, Nat.div_one, ← hv1]
    generalize nw (val d) = D at *
    generalize nw (val n) = N at *
    refine CallOk.of_wl Tryz.func21 rfl rfl rfl (Nat.le_of_ble_eq_true rfl) ?_
    (repeat (first | with_reducible (first | refine WL.seq ?_ | refine WL.skip ?_ | refine WL.label ?_ | refine WL.block ?_ | refine WL.scope ?_ | refine WL.nilS ?_ | refine WL.reS ?_ | refine WL.exS ?_ | refine WL.nilB ?_ | refine WL.nilT ?_ | refine WL.exit ?_ | refine WL.ret ?_ | refine WL.exT ?_ | refine WL.exB ?_ | refine WL.exN rfl ?_ | refine WL.reT ?_ | refine WL.reB ?_) | ((first | refine WL.reg rfl ?_ | refine WL.regT zai rfl ?_); (conv => { arg 3; simp [prep, prep1] }); (repeat (first | (refine zae ?_ ?_; (focus (simp; done)); (conv => { arg 4; simp (disch := omega) [fr, hd2, hd3, hn2, hn3] }); (first | (first | refine zaa ?_ | (refine zac ?_; (conv => { arg 5; simp }))) | ((first | refine zal true rfl rfl ⟨_, Tryz.func68, rfl, rfl⟩ ?_ | refine zal true rfl rfl ⟨_, Tryz.func69, rfl, rfl⟩ ?_); (conv => { arg 6; simp (disch := omega) [fr, hd2, hd3, hn2, hn3] }); (first | refine zaf (c1) rfl ?_ | refine zaf (c2) rfl ?_ | refine zaf (cO) rfl ?_); (conv => { arg 5; simp (disch := omega) [fr, hd2, hd3, hn2, hn3] })))) | (refine zab rfl ?_ ?_; (focus (simp; done))))); with_reducible refine zad ?_; (first | refine ⟨rfl, ?_⟩ | refine ⟨by simp [quietB], by simp [quietU], ?_⟩ | skip)) | (refine WL.cond ?_; (conv => { arg 1; simp (disch := omega) [fr, hd2, hd3, hn2, hn3] }); with_reducible (first | refine zaj ?_ | refine zak ?_ | refine zag (by omega) ?_ | refine zah (by omega) ?_))))
    refine ⟨[], ?_⟩
    simp (disch := omega) [fr]
  · rw [decide_eq_false h1] at cO
    have cG := refGcd (nw (val n)) (nw (val d)) (zaq _) (zaq _) (by omega) (by omega)
    rw [zam, zam] at cG
    have hgl : (nw (Nat.gcd (val n) (val d))).length ≤ (nw (val n)).length := zat (Nat.le_of_dvd (by omega) (Nat.gcd_dvd_left _ _))
    have cN := zpq (nw (val n)) (nw (Nat.gcd (val n) (val d))) (zaq _) (zaq _) (by rw [zam]; exact hg0) (by omega) (by omega)
    have cD := zpq (nw (val d)) (nw (Nat.gcd (val n) (val d))) (zaq _) (zaq _) (by rw [zam]; exact hg0) (by omega) (by omega)
    rw [zam, zam] at cN cD
    clear hgl hn1 hd1
    generalize nw (val n / Nat.gcd (val n) (val d)) = N2 at *
    generalize nw (val d / Nat.gcd (val n) (val d)) = D2 at *
    generalize nw (Nat.gcd (val n) (val d)) = GG at *
    generalize nw (val d) = D at *
    generalize nw (val n) = N at *
    refine CallOk.of_wl Tryz.func21 rfl rfl rfl (Nat.le_of_ble_eq_true rfl) ?_
    (repeat (first | with_reducible (first | refine WL.seq ?_ | refine WL.skip ?_ | refine WL.label ?_ | refine WL.block ?_ | refine WL.scope ?_ | refine WL.nilS ?_ | refine WL.reS ?_ | refine WL.exS ?_ | refine WL.nilB ?_ | refine WL.nilT ?_ | refine WL.exit ?_ | refine WL.ret ?_ | refine WL.exT ?_ | refine WL.exB ?_ | refine WL.exN rfl ?_ | refine WL.reT ?_ | refine WL.reB ?_) | ((first | refine WL.reg rfl ?_ | refine WL.regT zai rfl ?_); (conv => { arg 3; simp [prep, prep1] }); (repeat (first | (refine zae ?_ ?_; (focus (simp; done)); (conv => { arg 4; simp (disch := omega) [fr, hd2, hd3, hn2, hn3] }); (first | (first | refine zaa ?_ | (refine zac ?_; (conv => { arg 5; simp }))) | ((first | refine zal true rfl rfl ⟨_, Tryz.func68, rfl, rfl⟩ ?_ | refine zal true rfl rfl ⟨_, Tryz.func69, rfl, rfl⟩ ?_ | refine zal true rfl rfl ⟨_, Tryz.func70, rfl, rfl⟩ ?_ | refine zal true rfl rfl ⟨_, Tryz.func71, rfl, rfl⟩ ?_); (conv => { arg 6; simp (disch := omega) [fr, hd2, hd3, hn2, hn3] }); (first | refine zaf (c1) rfl ?_ | refine zaf (c2) rfl ?_ | refine zaf (cO) rfl ?_ | refine zaf (cG) rfl ?_ | refine zaf (cN) rfl ?_ | refine zaf (cD) rfl ?_); (conv => { arg 5; simp (disch := omega) [fr, hd2, hd3, hn2, hn3] })))) | (refine zab rfl ?_ ?_; (focus (simp; done))))); with_reducible refine zad ?_; (first | refine ⟨rfl, ?_⟩ | refine ⟨by simp [quietB], by simp [quietU], ?_⟩ | skip)) | (refine WL.cond ?_; (conv => { arg 1; simp (disch := omega) [fr, hd2, hd3, hn2, hn3] }); with_reducible (first | refine zaj ?_ | refine zak ?_ | refine zag (by omega) ?_ | refine zah (by omega) ?_))))
    refine ⟨[], ?_⟩
    simp (disch := omega) [fr]
end Go.Proofs.YthgldcflcmlgpaaGreatDoorE
end
