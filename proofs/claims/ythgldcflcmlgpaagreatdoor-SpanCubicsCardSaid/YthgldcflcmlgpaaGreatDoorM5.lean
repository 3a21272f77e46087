import Derived.Test.YthgldcflcmlgpaaGreatDoorM0
import Derived.Test.YthgldcflcmlgpaaGreatDoorM1
import Derived.Test.YthgldcflcmlgpaaGreatDoorM2
import Derived.Test.YthgldcflcmlgpaaGreatDoorM3
import Derived.Test.YthgldcflcmlgpaaGreatDoorM4
section
/- The document's right fractions: their sums, products, quotients. -/
set_option linter.unusedVariables false
set_option linter.unusedSimpArgs false
namespace Go.Proofs.YthgldcflcmlgpaaGreatDoorE
open Go.RowKit
set_option maxRecDepth 100000
attribute [local simp] List.getElem?_cons_zero List.getElem?_cons_succ List.getElem?_nil wrap_i64 stOf st0 effF effC evalV evalL zfd zcr pv_t pv_c pv_g pv_f ofConst binV binI lenV foldV mx2 mn2 unV convV extractV idxV indexV fieldAddrV fieldV partV sliceV boundsV loadL live storeE appendE srcV litE makeE IntKind.bits copyE boxE allocE flatParts flatCs flatC allParts cellsOf solid leafB fillL frzL buildV fillP placeS eqFl eqCell St.eff St.put wrs callE renP renA renC renI nid newL renB noEff endK endR resA resL resV expP expA expC expN expL expBs expB idx thenQ blockQ wantK if_pos if_neg wrap_u32 zas beqI bneI w32 wl zar Int.natCast_inj
theorem zgr (z : Int) : zs (decide (z < 0)) z.natAbs = z := by unfold zs; by_cases h : z < 0 <;> simp [h] <;> omega
theorem zs_mul (s t : Bool) (a b : Nat) : zs (s != t) (a * b) = zs s a * zs t b := by cases s <;> cases t <;> simp [zs, Int.neg_mul, Int.mul_neg]
theorem zeq (s : Bool) (n d : Nat) (hn : (nw n).length ≤ 34359738368) (hd : (nw d).length ≤ 34359738368) : CallOk Tryz.prog 21 [fr s (nw n) (nw d)] [] (frQ (mkRat (zs s n) d)) [] := by
  have := zfq s (nw n) (nw d) (zaq _) (zaq _) hn hd
  unfold qv zv at this
  rwa [zam, zam] at this
theorem szN {q : Rat} {k : Nat} (h : szQ q ≤ k) : (nw q.num.natAbs).length ≤ k ∧ (nw q.den).length ≤ k := ⟨Nat.le_trans (Nat.le_max_left _ _) h, Nat.le_trans (Nat.le_max_right _ _) h⟩
theorem zkh (p q : Rat) (hp : szQ p ≤ 1073741824) (hq : szQ q ≤ 1073741824) : CallOk Tryz.prog 92 [frQ p, frQ q] [] (frQ (p * q)) [] := by
  obtain ⟨p1, p2⟩ := szN hp
  obtain ⟨q1, q2⟩ := szN hq
  have m1 := zgu (nw p.num.natAbs) (nw q.num.natAbs) (zaq _) (zaq _) (by omega)
  have m2 := zgu (nw p.den) (nw q.den) (zaq _) (zaq _) (by omega)
  rw [zam, zam] at m1 m2
  have l1 := zby p.num.natAbs q.num.natAbs
  have l2 := zby p.den q.den
  have cN := zeq (decide (p.num < 0) != decide (q.num < 0)) (p.num.natAbs * q.num.natAbs) (p.den * q.den) (by omega) (by omega)
  rw [zs_mul, zgr, zgr, ← Rat.mkRat_mul_mkRat, Rat.mkRat_self, Rat.mkRat_self] at cN
  generalize p * q = r at *
  generalize nw (p.num.natAbs * q.num.natAbs) = N at *
  generalize nw (p.den * q.den) = D at *
  unfold frQ at *
  generalize decide (p.num < 0) = b1 at *
  generalize decide (q.num < 0) = b2 at *
  generalize nw p.num.natAbs = n1 at *
  generalize nw q.num.natAbs = n2 at *
  generalize nw p.den = d1 at *
  generalize nw q.den = d2 at *
  clear p1 p2 q1 q2 l1 l2
  cases b1 <;> cases b2
  all_goals
    refine CallOk.of_wl Tryz.func92 rfl rfl rfl (Nat.le_of_ble_eq_true rfl) ?_
    (repeat (first | with_reducible (first | refine WL.seq ?_ | refine WL.skip ?_ | refine WL.label ?_ | refine WL.block ?_ | refine WL.scope ?_ | refine WL.nilS ?_ | refine WL.reS ?_ | refine WL.exS ?_ | refine WL.nilB ?_ | refine WL.nilT ?_ | refine WL.exit ?_ | refine WL.ret ?_ | refine WL.exT ?_ | refine WL.exB ?_ | refine WL.exN rfl ?_ | refine WL.reT ?_ | refine WL.reB ?_) | ((first | refine WL.reg rfl ?_ | refine WL.regT zai rfl ?_); (conv => { arg 3; simp [prep, prep1] }); (repeat (first | (refine zae ?_ ?_; (focus (simp; done)); (conv => { arg 4; simp (disch := omega) [fr] }); (first | (first | refine zaa ?_ | (refine zac ?_; (conv => { arg 5; simp }))) | ((first | refine zal true rfl rfl ⟨_, Tryz.func137, rfl, rfl⟩ ?_ | refine zal true rfl rfl ⟨_, Tryz.func21, rfl, rfl⟩ ?_); (conv => { arg 6; simp (disch := omega) [fr] }); (first | refine zaf (m1) rfl ?_ | refine zaf (m2) rfl ?_ | refine zaf (cN) rfl ?_); (conv => { arg 5; simp (disch := omega) [fr] })))) | (refine zab rfl ?_ ?_; (focus (simp; done))))); with_reducible refine zad ?_; (first | refine ⟨rfl, ?_⟩ | refine ⟨by simp [quietB], by simp [quietU], ?_⟩ | skip)) | (refine WL.cond ?_; (conv => { arg 1; simp (disch := omega) [fr] }); with_reducible (first | refine zaj ?_ | refine zak ?_ | refine zag (by omega) ?_ | refine zah (by omega) ?_))))
    refine ⟨[], ?_⟩
    simp (disch := omega) [fr]
theorem zkg (p q : Rat) (hp : szQ p ≤ 1073741824) (hq : szQ q ≤ 1073741824) (h0 : q ≠ 0) : CallOk Tryz.prog 115 [frQ p, frQ q] [] (frQ (p / q)) [] := by
  obtain ⟨p1, p2⟩ := szN hp
  obtain ⟨q1, q2⟩ := szN hq
  have m1 := zgu (nw p.num.natAbs) (nw q.den) (zaq _) (zaq _) (by omega)
  have m2 := zgu (nw p.den) (nw q.num.natAbs) (zaq _) (zaq _) (by omega)
  rw [zam, zam] at m1 m2
  have l1 := zby p.num.natAbs q.den
  have l2 := zby p.den q.num.natAbs
  have cN := zeq (decide (p.num < 0) != decide (q.num < 0)) (p.num.natAbs * q.den) (p.den * q.num.natAbs) (by omega) (by omega)
  have hqn : 0 < q.num.natAbs := by
    have : q.num ≠ 0 := fun h => h0 (Rat.num_eq_zero.1 h)
    omega
  have e : zs (decide (p.num < 0) != decide (q.num < 0)) (p.num.natAbs * q.den) = if decide (q.num < 0) = true then -(p.num * q.den) else p.num * q.den := by
    have h1 := zgr p.num
    by_cases ha : p.num < 0 <;> by_cases hb : q.num < 0 <;> simp [ha, hb, zs] at h1 ⊢
    · rw [← Int.neg_mul]; congr 1; omega
    · rw [← Int.neg_mul]; congr 1
    · congr 1
    · congr 1
  rw [e, zqe _ _ _ _ _ p.den_pos q.den_pos hqn, zgr, Rat.mkRat_self, Rat.mkRat_self] at cN
  clear e
  generalize p / q = r at *
  generalize nw (p.num.natAbs * q.den) = N at *
  generalize nw (p.den * q.num.natAbs) = D at *
  unfold frQ at *
  generalize decide (p.num < 0) = b1 at *
  generalize decide (q.num < 0) = b2 at *
  generalize nw p.num.natAbs = n1 at *
  generalize nw q.num.natAbs = n2 at *
  generalize nw p.den = d1 at *
  generalize nw q.den = d2 at *
  clear p1 p2 q1 q2 l1 l2
  cases b1 <;> cases b2
  all_goals
    refine CallOk.of_wl Tryz.func115 rfl rfl rfl (Nat.le_of_ble_eq_true rfl) ?_
    (repeat (first | with_reducible (first | refine WL.seq ?_ | refine WL.skip ?_ | refine WL.label ?_ | refine WL.block ?_ | refine WL.scope ?_ | refine WL.nilS ?_ | refine WL.reS ?_ | refine WL.exS ?_ | refine WL.nilB ?_ | refine WL.nilT ?_ | refine WL.exit ?_ | refine WL.ret ?_ | refine WL.exT ?_ | refine WL.exB ?_ | refine WL.exN rfl ?_ | refine WL.reT ?_ | refine WL.reB ?_) | ((first | refine WL.reg rfl ?_ | refine WL.regT zai rfl ?_); (conv => { arg 3; simp [prep, prep1] }); (repeat (first | (refine zae ?_ ?_; (focus (simp; done)); (conv => { arg 4; simp (disch := omega) [fr] }); (first | (first | refine zaa ?_ | (refine zac ?_; (conv => { arg 5; simp }))) | ((first | refine zal true rfl rfl ⟨_, Tryz.func137, rfl, rfl⟩ ?_ | refine zal true rfl rfl ⟨_, Tryz.func21, rfl, rfl⟩ ?_); (conv => { arg 6; simp (disch := omega) [fr] }); (first | refine zaf (m1) rfl ?_ | refine zaf (m2) rfl ?_ | refine zaf (cN) rfl ?_); (conv => { arg 5; simp (disch := omega) [fr] })))) | (refine zab rfl ?_ ?_; (focus (simp; done))))); with_reducible refine zad ?_; (first | refine ⟨rfl, ?_⟩ | refine ⟨by simp [quietB], by simp [quietU], ?_⟩ | skip)) | (refine WL.cond ?_; (conv => { arg 1; simp (disch := omega) [fr] }); with_reducible (first | refine zaj ?_ | refine zak ?_ | refine zag (by omega) ?_ | refine zah (by omega) ?_))))
    refine ⟨[], ?_⟩
    simp (disch := omega) [fr]
theorem zpr (p : Rat) (hp : szQ p ≤ 1073741824) : CallOk Tryz.prog 114 [frQ p] [] (frQ (-p)) [] := by
  obtain ⟨p1, p2⟩ := szN hp
  have cN := zeq (!decide (p.num < 0)) p.num.natAbs p.den (by omega) (by omega)
  have e : zs (!decide (p.num < 0)) p.num.natAbs = -p.num := by
    by_cases h : p.num < 0 <;> simp [h, zs] <;> omega
  rw [e, ← Rat.neg_mkRat, Rat.mkRat_self] at cN
  unfold frQ at *
  generalize decide (p.num < 0) = b1 at *
  generalize decide ((-p).num < 0) = b2 at *
  generalize nw p.num.natAbs = n1 at *
  generalize nw p.den = d1 at *
  generalize nw (-p).num.natAbs = n2 at *
  generalize nw (-p).den = d2 at *
  refine CallOk.of_wl Tryz.func114 rfl rfl rfl (Nat.le_of_ble_eq_true rfl) ?_
  (repeat (first | with_reducible (first | refine WL.seq ?_ | refine WL.skip ?_ | refine WL.label ?_ | refine WL.block ?_ | refine WL.scope ?_ | refine WL.nilS ?_ | refine WL.reS ?_ | refine WL.exS ?_ | refine WL.nilB ?_ | refine WL.nilT ?_ | refine WL.exit ?_ | refine WL.ret ?_ | refine WL.exT ?_ | refine WL.exB ?_ | refine WL.exN rfl ?_ | refine WL.reT ?_ | refine WL.reB ?_) | ((first | refine WL.reg rfl ?_ | refine WL.regT zai rfl ?_); (conv => { arg 3; simp [prep, prep1] }); (repeat (first | (refine zae ?_ ?_; (focus (simp; done)); (conv => { arg 4; simp (disch := omega) [fr] }); (first | (first | refine zaa ?_ | (refine zac ?_; (conv => { arg 5; simp }))) | (refine zal true rfl rfl ⟨_, Tryz.func21, rfl, rfl⟩ ?_; (conv => { arg 6; simp (disch := omega) [fr] }); refine zaf (cN) rfl ?_; (conv => { arg 5; simp (disch := omega) [fr] })))) | (refine zab rfl ?_ ?_; (focus (simp; done))))); with_reducible refine zad ?_; (first | refine ⟨rfl, ?_⟩ | refine ⟨by simp [quietB], by simp [quietU], ?_⟩ | skip)) | (refine WL.cond ?_; (conv => { arg 1; simp (disch := omega) [fr] }); with_reducible (first | refine zaj ?_ | refine zak ?_ | refine zag (by omega) ?_ | refine zah (by omega) ?_))))
  refine ⟨[], ?_⟩
  simp (disch := omega) [fr]
theorem zki (p q : Rat) (hp : szQ p ≤ 1073741824) (hq : szQ q ≤ 1073741824) : CallOk Tryz.prog 93 [frQ p, frQ q] [] (frQ (p + q)) [] := by
  obtain ⟨p1, p2⟩ := szN hp
  obtain ⟨q1, q2⟩ := szN hq
  have m1 := zgu (nw p.num.natAbs) (nw q.den) (zaq _) (zaq _) (by omega)
  have m2 := zgu (nw q.num.natAbs) (nw p.den) (zaq _) (zaq _) (by omega)
  have m3 := zgu (nw p.den) (nw q.den) (zaq _) (zaq _) (by omega)
  rw [zam, zam] at m1 m2 m3
  have l1 := zby p.num.natAbs q.den
  have l2 := zby q.num.natAbs p.den
  have l3 := zby p.den q.den
  have cA := refWAdd (decide (p.num < 0)) (decide (q.num < 0)) (nw (p.num.natAbs * q.den)) (nw (q.num.natAbs * p.den)) (zaq _) (zaq _) (by omega) (by omega)
  unfold zv at cA
  rw [zam, zam] at cA
  have e1 : zs (decide (p.num < 0)) (p.num.natAbs * q.den) = p.num * q.den := by
    have h1 := zgr p.num
    by_cases ha : p.num < 0 <;> simp [ha, zs] at h1 ⊢
    · rw [← Int.neg_mul, h1]
    · congr 1
  have e2 : zs (decide (q.num < 0)) (q.num.natAbs * p.den) = q.num * p.den := by
    have h1 := zgr q.num
    by_cases ha : q.num < 0 <;> simp [ha, zs] at h1 ⊢
    · rw [← Int.neg_mul, h1]
    · congr 1
  rw [e1, e2] at cA
  have l4 := zhe (p.num * q.den) (q.num * p.den)
  rw [Int.natAbs_mul, Int.natAbs_mul, Int.natAbs_natCast, Int.natAbs_natCast] at l4
  have cN := zeq (decide (p.num * q.den + q.num * p.den < 0)) (p.num * q.den + q.num * p.den).natAbs (p.den * q.den) (by omega) (by omega)
  rw [zgr, ← Rat.mkRat_add_mkRat _ _ p.den_nz q.den_nz, Rat.mkRat_self, Rat.mkRat_self] at cN
  unfold whZ at cA
  clear e1 e2 l1 l2 l3 l4 p1 p2 q1 q2
  generalize p + q = r at *
  generalize nw (p.num.natAbs * q.den) = N1 at *
  generalize nw (q.num.natAbs * p.den) = N2 at *
  generalize nw (p.den * q.den) = D at *
  generalize decide (p.num * q.den + q.num * p.den < 0) = b3 at *
  generalize nw (p.num * q.den + q.num * p.den).natAbs = N3 at *
  unfold frQ at *
  generalize decide (p.num < 0) = b1 at *
  generalize decide (q.num < 0) = b2 at *
  generalize nw p.num.natAbs = n1 at *
  generalize nw q.num.natAbs = n2 at *
  generalize nw p.den = d1 at *
  generalize nw q.den = d2 at *
  refine CallOk.of_wl Tryz.func93 rfl rfl rfl (Nat.le_of_ble_eq_true rfl) ?_
  (repeat (first | with_reducible (first | refine WL.seq ?_ | refine WL.skip ?_ | refine WL.label ?_ | refine WL.block ?_ | refine WL.scope ?_ | refine WL.nilS ?_ | refine WL.reS ?_ | refine WL.exS ?_ | refine WL.nilB ?_ | refine WL.nilT ?_ | refine WL.exit ?_ | refine WL.ret ?_ | refine WL.exT ?_ | refine WL.exB ?_ | refine WL.exN rfl ?_ | refine WL.reT ?_ | refine WL.reB ?_) | ((first | refine WL.reg rfl ?_ | refine WL.regT zai rfl ?_); (conv => { arg 3; simp [prep, prep1] }); (repeat (first | (refine zae ?_ ?_; (focus (simp; done)); (conv => { arg 4; simp (disch := omega) [fr, wh] }); (first | (first | refine zaa ?_ | (refine zac ?_; (conv => { arg 5; simp }))) | ((first | refine zal true rfl rfl ⟨_, Tryz.func137, rfl, rfl⟩ ?_ | refine zal true rfl rfl ⟨_, Tryz.func148, rfl, rfl⟩ ?_ | refine zal true rfl rfl ⟨_, Tryz.func21, rfl, rfl⟩ ?_); (conv => { arg 6; simp (disch := omega) [fr, wh] }); (first | refine zaf (m1) rfl ?_ | refine zaf (m2) rfl ?_ | refine zaf (m3) rfl ?_ | refine zaf (cA) rfl ?_ | refine zaf (cN) rfl ?_); (conv => { arg 5; simp (disch := omega) [fr, wh] })))) | (refine zab rfl ?_ ?_; (focus (simp; done))))); with_reducible refine zad ?_; (first | refine ⟨rfl, ?_⟩ | refine ⟨by simp [quietB], by simp [quietU], ?_⟩ | skip)) | (refine WL.cond ?_; (conv => { arg 1; simp (disch := omega) [fr, wh] }); with_reducible (first | refine zaj ?_ | refine zak ?_ | refine zag (by omega) ?_ | refine zah (by omega) ?_))))
  refine ⟨[], ?_⟩
  simp (disch := omega) [fr]
theorem zhv (p q : Rat) (hp : szQ p ≤ 1073741824) (hq : szQ q ≤ 1073741824) : CallOk Tryz.prog 73 [frQ p, frQ q] [] (frQ (p - q)) [] := by
  have c1 := zpr q hq
  have c2 := zki p (-q) hp (by rw [zgg]; exact hq)
  rw [← Rat.sub_eq_add_neg] at c2
  unfold frQ at *
  generalize decide (p.num < 0) = b1 at *
  generalize decide (q.num < 0) = b2 at *
  generalize decide ((-q).num < 0) = b3 at *
  generalize decide ((p - q).num < 0) = b4 at *
  generalize nw p.num.natAbs = n1 at *
  generalize nw q.num.natAbs = n2 at *
  generalize nw (-q).num.natAbs = n3 at *
  generalize nw (p - q).num.natAbs = n4 at *
  generalize nw p.den = d1 at *
  generalize nw q.den = d2 at *
  generalize nw (-q).den = d3 at *
  generalize nw (p - q).den = d4 at *
  refine CallOk.of_wl Tryz.func73 rfl rfl rfl (Nat.le_of_ble_eq_true rfl) ?_
  (repeat (first | with_reducible (first | refine WL.seq ?_ | refine WL.skip ?_ | refine WL.label ?_ | refine WL.block ?_ | refine WL.scope ?_ | refine WL.nilS ?_ | refine WL.reS ?_ | refine WL.exS ?_ | refine WL.nilB ?_ | refine WL.nilT ?_ | refine WL.exit ?_ | refine WL.ret ?_ | refine WL.exT ?_ | refine WL.exB ?_ | refine WL.exN rfl ?_ | refine WL.reT ?_ | refine WL.reB ?_) | ((first | refine WL.reg rfl ?_ | refine WL.regT zai rfl ?_); (conv => { arg 3; simp [prep, prep1] }); (repeat (first | (refine zae ?_ ?_; (focus (simp; done)); (conv => { arg 4; simp (disch := omega) [fr] }); (first | (first | refine zaa ?_ | (refine zac ?_; (conv => { arg 5; simp }))) | ((first | refine zal true rfl rfl ⟨_, Tryz.func114, rfl, rfl⟩ ?_ | refine zal true rfl rfl ⟨_, Tryz.func93, rfl, rfl⟩ ?_); (conv => { arg 6; simp (disch := omega) [fr] }); (first | refine zaf (c1) rfl ?_ | refine zaf (c2) rfl ?_); (conv => { arg 5; simp (disch := omega) [fr] })))) | (refine zab rfl ?_ ?_; (focus (simp; done))))); with_reducible refine zad ?_; (first | refine ⟨rfl, ?_⟩ | refine ⟨by simp [quietB], by simp [quietU], ?_⟩ | skip)) | (refine WL.cond ?_; (conv => { arg 1; simp (disch := omega) [fr] }); with_reducible (first | refine zaj ?_ | refine zak ?_ | refine zag (by omega) ?_ | refine zah (by omega) ?_))))
  refine ⟨[], ?_⟩
  simp (disch := omega) [fr]
theorem zfg (n : Int) (h : -1000000000 ≤ n ∧ n ≤ 1000000000) : CallOk Tryz.prog 44 [.int .i64 n] [] (frQ (n : Rat)) [] := by
  have h1w : nw 1 = [1] := zft
  have cN := zeq (decide (n < 0)) n.natAbs 1 (by have := zbz (n := n.natAbs) (k := 1) (by simp; omega); omega) (by rw [h1w]; simp)
  rw [zgr, show mkRat n 1 = (n : Rat) by rw [Rat.mkRat_one]] at cN
  rw [h1w] at cN
  unfold frQ at *
  generalize decide ((n : Rat).num < 0) = b4 at *
  generalize nw (n : Rat).num.natAbs = n4 at *
  generalize nw (n : Rat).den = d4 at *
  simp only [fr, wl, ws, w32, List.map_cons, List.map_nil, List.length_cons, List.length_nil] at cN
  by_cases hneg : n < 0
  · have c1 := zrs (-(n + 1)).toNat (by omega)
    have c2 := zra (nw (-(n + 1)).toNat) [1] (zaq _) (by intro x hx; simp at hx; omega) (by have := zbz (n := (-(n + 1)).toNat) (k := 1) (by simp; omega); omega) (by simp)
    rw [zam, show val [1] = 1 from rfl, show (-(n + 1)).toNat + 1 = n.natAbs by omega] at c2
    rw [decide_eq_true hneg] at cN
    have e1 : (((-(n + 1)).toNat : Nat) : Int) = -(n + 1) := by omega
    rw [e1] at c1
    simp only [wl, ws, w32, List.map_cons, List.map_nil, List.length_cons, List.length_nil] at c1 c2
    have w1 : 0 ≤ -(n + 1) ∧ -(n + 1) ≤ 18446744073709551615 := by omega
    have e2 : (0 : Int) - (n + 1) = -(n + 1) := by omega
    generalize nw (-(n + 1)).toNat = A at *
    generalize nw n.natAbs = B at *
    refine CallOk.of_wl Tryz.func44 rfl rfl rfl (Nat.le_of_ble_eq_true rfl) ?_
    (repeat (first | with_reducible (first | refine WL.seq ?_ | refine WL.skip ?_ | refine WL.label ?_ | refine WL.block ?_ | refine WL.scope ?_ | refine WL.nilS ?_ | refine WL.reS ?_ | refine WL.exS ?_ | refine WL.nilB ?_ | refine WL.nilT ?_ | refine WL.exit ?_ | refine WL.ret ?_ | refine WL.exT ?_ | refine WL.exB ?_ | refine WL.exN rfl ?_ | refine WL.reT ?_ | refine WL.reB ?_) | ((first | refine WL.reg rfl ?_ | refine WL.regT zai rfl ?_); (conv => { arg 3; simp [prep, prep1] }); (repeat (first | (refine zae ?_ ?_; (focus (simp; done)); (conv => { arg 4; simp (disch := omega) [hneg, e2] }); (first | (first | refine zaa ?_ | (refine zac ?_; (conv => { arg 5; simp }))) | ((first | refine zal true rfl rfl ⟨_, Tryz.func95, rfl, rfl⟩ ?_ | refine zal true rfl rfl ⟨_, Tryz.func94, rfl, rfl⟩ ?_ | refine zal true rfl rfl ⟨_, Tryz.func21, rfl, rfl⟩ ?_); (conv => { arg 6; simp (disch := omega) [hneg, e2] }); (first | refine zaf (c1) rfl ?_ | refine zaf (c2) rfl ?_ | refine zaf (cN) rfl ?_); (conv => { arg 5; simp (disch := omega) [hneg, e2] })))) | (refine zab rfl ?_ ?_; (focus (simp; done))))); with_reducible refine zad ?_; (first | refine ⟨rfl, ?_⟩ | refine ⟨by simp [quietB], by simp [quietU], ?_⟩ | skip)) | (refine WL.cond ?_; (conv => { arg 1; simp (disch := omega) [hneg, e2] }); with_reducible (first | refine zaj ?_ | refine zak ?_ | refine zag (by omega) ?_ | refine zah (by omega) ?_))))
    refine ⟨[], ?_⟩
    simp (disch := omega) [fr, ws]
  · have c1 := zrs n.natAbs (by omega)
    rw [decide_eq_false hneg] at cN
    have e1 : ((n.natAbs : Nat) : Int) = n := by omega
    rw [e1] at c1
    simp only [wl, ws, w32, List.map_cons, List.map_nil, List.length_cons, List.length_nil] at c1
    generalize nw n.natAbs = B at *
    refine CallOk.of_wl Tryz.func44 rfl rfl rfl (Nat.le_of_ble_eq_true rfl) ?_
    (repeat (first | with_reducible (first | refine WL.seq ?_ | refine WL.skip ?_ | refine WL.label ?_ | refine WL.block ?_ | refine WL.scope ?_ | refine WL.nilS ?_ | refine WL.reS ?_ | refine WL.exS ?_ | refine WL.nilB ?_ | refine WL.nilT ?_ | refine WL.exit ?_ | refine WL.ret ?_ | refine WL.exT ?_ | refine WL.exB ?_ | refine WL.exN rfl ?_ | refine WL.reT ?_ | refine WL.reB ?_) | ((first | refine WL.reg rfl ?_ | refine WL.regT zai rfl ?_); (conv => { arg 3; simp [prep, prep1] }); (repeat (first | (refine zae ?_ ?_; (focus (simp; done)); (conv => { arg 4; simp (disch := omega) [hneg] }); (first | (first | refine zaa ?_ | (refine zac ?_; (conv => { arg 5; simp }))) | ((first | refine zal true rfl rfl ⟨_, Tryz.func95, rfl, rfl⟩ ?_ | refine zal true rfl rfl ⟨_, Tryz.func21, rfl, rfl⟩ ?_); (conv => { arg 6; simp (disch := omega) [hneg] }); (first | refine zaf (c1) rfl ?_ | refine zaf (cN) rfl ?_); (conv => { arg 5; simp (disch := omega) [hneg] })))) | (refine zab rfl ?_ ?_; (focus (simp; done))))); with_reducible refine zad ?_; (first | refine ⟨rfl, ?_⟩ | refine ⟨by simp [quietB], by simp [quietU], ?_⟩ | skip)) | (refine WL.cond ?_; (conv => { arg 1; simp (disch := omega) [hneg] }); with_reducible (first | refine zaj ?_ | refine zak ?_ | refine zag (by omega) ?_ | refine zah (by omega) ?_))))
    refine ⟨[], ?_⟩
    simp (disch := omega) [fr, ws]
theorem RF.of_inj {p q : Rat} (h : RF.of p = RF.of q) : p = q := by
  have := congrArg RF.q h
  rwa [RF.of_q, RF.of_q] at this
theorem refFSame (p q : Rat) (hp : szQ p ≤ 1073741824) (hq : szQ q ≤ 1073741824) : CallOk Tryz.prog 96 [frQ p, frQ q] [] (.bool (decide (p = q))) [] := by
  obtain ⟨p1, p2⟩ := szN hp
  obtain ⟨q1, q2⟩ := szN hq
  have c1 := zpp (nw p.num.natAbs) (nw q.num.natAbs) (by omega) (by omega)
  have c2 := zpp (nw p.den) (nw q.den) (by omega) (by omega)
  have e : decide (p = q) = (decide (decide (p.num < 0) = decide (q.num < 0)) && decide (nw p.num.natAbs = nw q.num.natAbs) && decide (nw p.den = nw q.den)) := by
    rw [← Bool.decide_and, ← Bool.decide_and]
    refine decide_eq_decide.2 ⟨fun h => by subst h; exact ⟨⟨rfl, rfl⟩, rfl⟩, fun ⟨⟨h1, h2⟩, h3⟩ => RF.of_inj ?_⟩
    unfold RF.of; rw [h1, h2, h3]
  rw [e]
  clear e p1 p2 q1 q2
  unfold frQ
  generalize decide (p.num < 0) = b1 at *
  generalize decide (q.num < 0) = b2 at *
  generalize nw p.num.natAbs = n1 at *
  generalize nw q.num.natAbs = n2 at *
  generalize nw p.den = d1 at *
  generalize nw q.den = d2 at *
  by_cases hb : b1 = b2
  · subst hb
    by_cases h1 : n1 = n2
    · rw [decide_eq_true h1] at c1 ⊢
      refine CallOk.of_wl Tryz.func96 rfl rfl rfl (Nat.le_of_ble_eq_true rfl) ?_
      (repeat (first | with_reducible (first | refine WL.seq ?_ | refine WL.skip ?_ | refine WL.label ?_ | refine WL.block ?_ | refine WL.scope ?_ | refine WL.nilS ?_ | refine WL.reS ?_ | refine WL.exS ?_ | refine WL.nilB ?_ | refine WL.nilT ?_ | refine WL.exit ?_ | refine WL.ret ?_ | refine WL.exT ?_ | refine WL.exB ?_ | refine WL.exN rfl ?_ | refine WL.reT ?_ | refine WL.reB ?_) | ((first | refine WL.reg rfl ?_ | refine WL.regT zai rfl ?_); (conv => { arg 3; simp [prep, prep1] }); (repeat (first | (refine zae ?_ ?_; (focus (simp; done)); (conv => { arg 4; simp (disch := omega) [fr] }); (first | (first | refine zaa ?_ | (refine zac ?_; (conv => { arg 5; simp }))) | (refine zal true rfl rfl ⟨_, Tryz.func150, rfl, rfl⟩ ?_; (conv => { arg 6; simp (disch := omega) [fr] }); (first | refine zaf (c1) rfl ?_ | refine zaf (c2) rfl ?_); (conv => { arg 5; simp (disch := omega) [fr] })))) | (refine zab rfl ?_ ?_; (focus (simp; done))))); with_reducible refine zad ?_; (first | refine ⟨rfl, ?_⟩ | refine ⟨by simp [quietB], by simp [quietU], ?_⟩ | skip)) | (refine WL.cond ?_; (conv => { arg 1; simp (disch := omega) [fr] }); with_reducible (first | refine zaj ?_ | refine zak ?_ | refine zag (by omega) ?_ | refine zah (by omega) ?_))))
      refine ⟨[], ?_⟩
      simp (disch := omega) 
    · rw [decide_eq_false h1] at c1 ⊢
      refine CallOk.of_wl Tryz.func96 rfl rfl rfl (Nat.le_of_ble_eq_true rfl) ?_
      (repeat (first | with_reducible (first | refine WL.seq ?_ | refine WL.skip ?_ | refine WL.label ?_ | refine WL.block ?_ | refine WL.scope ?_ | refine WL.nilS ?_ | refine WL.reS ?_ | refine WL.exS ?_ | refine WL.nilB ?_ | refine WL.nilT ?_ | refine WL.exit ?_ | refine WL.ret ?_ | refine WL.exT ?_ | refine WL.exB ?_ | refine WL.exN rfl ?_ | refine WL.reT ?_ | refine WL.reB ?_) | ((first | refine WL.reg rfl ?_ | refine WL.regT zai rfl ?_); (conv => { arg 3; simp [prep, prep1] }); (repeat (first | (refine zae ?_ ?_; (focus (simp; done)); (conv => { arg 4; simp (disch := omega) [fr] }); (first | (first | refine zaa ?_ | (refine zac ?_; (conv => { arg 5; simp }))) | (refine zal true rfl rfl ⟨_, Tryz.func150, rfl, rfl⟩ ?_; (conv => { arg 6; simp (disch := omega) [fr] }); (first | refine zaf (c1) rfl ?_ | refine zaf (c2) rfl ?_); (conv => { arg 5; simp (disch := omega) [fr] })))) | (refine zab rfl ?_ ?_; (focus (simp; done))))); with_reducible refine zad ?_; (first | refine ⟨rfl, ?_⟩ | refine ⟨by simp [quietB], by simp [quietU], ?_⟩ | skip)) | (refine WL.cond ?_; (conv => { arg 1; simp (disch := omega) [fr] }); with_reducible (first | refine zaj ?_ | refine zak ?_ | refine zag (by omega) ?_ | refine zah (by omega) ?_))))
      refine ⟨[], ?_⟩
      simp (disch := omega) 
  · have hb' : (b1 == b2) = false := by simpa using hb
    refine CallOk.of_wl Tryz.func96 rfl rfl rfl (Nat.le_of_ble_eq_true rfl) ?_
    (repeat (first | with_reducible (first | refine WL.seq ?_ | refine WL.skip ?_ | refine WL.label ?_ | refine WL.block ?_ | refine WL.scope ?_ | refine WL.nilS ?_ | refine WL.reS ?_ | refine WL.exS ?_ | refine WL.nilB ?_ | refine WL.nilT ?_ | refine WL.exit ?_ | refine WL.ret ?_ | refine WL.exT ?_ | refine WL.exB ?_ | refine WL.exN rfl ?_ | refine WL.reT ?_ | refine WL.reB ?_) | ((first | refine WL.reg rfl ?_ | refine WL.regT zai rfl ?_); (conv => { arg 3; simp [prep, prep1] }); (repeat (first | (refine zae ?_ ?_; (focus (simp; done)); (conv => { arg 4; simp (disch := omega) [fr, hb, hb'] }); (first | (first | refine zaa ?_ | (refine zac ?_; (conv => { arg 5; simp }))))) | (refine zab rfl ?_ ?_; (focus (simp; done))))); with_reducible refine zad ?_; (first | refine ⟨rfl, ?_⟩ | refine ⟨by simp [quietB], by simp [quietU], ?_⟩ | skip)) | (refine WL.cond ?_; (conv => { arg 1; simp (disch := omega) [fr, hb, hb'] }); with_reducible (first | refine zaj ?_ | refine zak ?_ | refine zag (by omega) ?_ | refine zah (by omega) ?_))))
    refine ⟨[], ?_⟩
    simp (disch := omega) [hb]
theorem refFSign (p : Rat) (hp : szQ p ≤ 1073741824) : CallOk Tryz.prog 67 [frQ p] [] (.int .i64 (sgnQ p)) [] := by
  unfold frQ sgnQ sgn
  by_cases h0 : p.num = 0
  · rw [if_pos h0, h0]
    simp only [Int.natAbs_zero, zaw]
    generalize nw p.den = d1 at *
    refine CallOk.of_wl Tryz.func67 rfl rfl rfl (Nat.le_of_ble_eq_true rfl) ?_
    (repeat (first | with_reducible (first | refine WL.seq ?_ | refine WL.skip ?_ | refine WL.label ?_ | refine WL.block ?_ | refine WL.scope ?_ | refine WL.nilS ?_ | refine WL.reS ?_ | refine WL.exS ?_ | refine WL.nilB ?_ | refine WL.nilT ?_ | refine WL.exit ?_ | refine WL.ret ?_ | refine WL.exT ?_ | refine WL.exB ?_ | refine WL.exN rfl ?_ | refine WL.reT ?_ | refine WL.reB ?_) | ((first | refine WL.reg rfl ?_ | refine WL.regT zai rfl ?_); (conv => { arg 3; simp [prep, prep1] }); (repeat (first | (refine zae ?_ ?_; (focus (simp; done)); (conv => { arg 4; simp (disch := omega) [fr, ws] }); (first | (first | refine zaa ?_ | (refine zac ?_; (conv => { arg 5; simp }))))) | (refine zab rfl ?_ ?_; (focus (simp; done))))); with_reducible refine zad ?_; (first | refine ⟨rfl, ?_⟩ | refine ⟨by simp [quietB], by simp [quietU], ?_⟩ | skip)) | (refine WL.cond ?_; (conv => { arg 1; simp (disch := omega) [fr, ws] }); with_reducible (first | refine zaj ?_ | refine zak ?_ | refine zag (by omega) ?_ | refine zah (by omega) ?_))))
    refine ⟨[], ?_⟩
    simp (disch := omega) 
  · rw [if_neg h0]
    have hn2 : ¬ nw p.num.natAbs = [] := fun h => by have := zdi (n := p.num.natAbs) (by rw [h]; rfl); omega
    have hn3 : ¬ (nw p.num.natAbs).length = 0 := fun h => by have := zdi h; omega
    generalize nw p.num.natAbs = n1 at *
    generalize nw p.den = d1 at *
    by_cases hneg : p.num < 0
    · rw [if_pos hneg, decide_eq_true hneg]
      refine CallOk.of_wl Tryz.func67 rfl rfl rfl (Nat.le_of_ble_eq_true rfl) ?_
      (repeat (first | with_reducible (first | refine WL.seq ?_ | refine WL.skip ?_ | refine WL.label ?_ | refine WL.block ?_ | refine WL.scope ?_ | refine WL.nilS ?_ | refine WL.reS ?_ | refine WL.exS ?_ | refine WL.nilB ?_ | refine WL.nilT ?_ | refine WL.exit ?_ | refine WL.ret ?_ | refine WL.exT ?_ | refine WL.exB ?_ | refine WL.exN rfl ?_ | refine WL.reT ?_ | refine WL.reB ?_) | ((first | refine WL.reg rfl ?_ | refine WL.regT zai rfl ?_); (conv => { arg 3; simp [prep, prep1] }); (repeat (first | (refine zae ?_ ?_; (focus (simp; done)); (conv => { arg 4; simp (disch := omega) [fr, hn2, hn3] }); (first | (first | refine zaa ?_ | (refine zac ?_; (conv => { arg 5; simp }))))) | (refine zab rfl ?_ ?_; (focus (simp; done))))); with_reducible refine zad ?_; (first | refine ⟨rfl, ?_⟩ | refine ⟨by simp [quietB], by simp [quietU], ?_⟩ | skip)) | (refine WL.cond ?_; (conv => { arg 1; simp (disch := omega) [fr, hn2, hn3] }); with_reducible (first | refine zaj ?_ | refine zak ?_ | refine zag (by omega) ?_ | refine zah (by omega) ?_))))
      refine ⟨[], ?_⟩
      simp (disch := omega) 
    · rw [if_neg hneg, decide_eq_false hneg]
      refine CallOk.of_wl Tryz.func67 rfl rfl rfl (Nat.le_of_ble_eq_true rfl) ?_
      (repeat (first | with_reducible (first | refine WL.seq ?_ | refine WL.skip ?_ | refine WL.label ?_ | refine WL.block ?_ | refine WL.scope ?_ | refine WL.nilS ?_ | refine WL.reS ?_ | refine WL.exS ?_ | refine WL.nilB ?_ | refine WL.nilT ?_ | refine WL.exit ?_ | refine WL.ret ?_ | refine WL.exT ?_ | refine WL.exB ?_ | refine WL.exN rfl ?_ | refine WL.reT ?_ | refine WL.reB ?_) | ((first | refine WL.reg rfl ?_ | refine WL.regT zai rfl ?_); (conv => { arg 3; simp [prep, prep1] }); (repeat (first | (refine zae ?_ ?_; (focus (simp; done)); (conv => { arg 4; simp (disch := omega) [fr, hn2, hn3] }); (first | (first | refine zaa ?_ | (refine zac ?_; (conv => { arg 5; simp }))))) | (refine zab rfl ?_ ?_; (focus (simp; done))))); with_reducible refine zad ?_; (first | refine ⟨rfl, ?_⟩ | refine ⟨by simp [quietB], by simp [quietU], ?_⟩ | skip)) | (refine WL.cond ?_; (conv => { arg 1; simp (disch := omega) [fr, hn2, hn3] }); with_reducible (first | refine zaj ?_ | refine zak ?_ | refine zag (by omega) ?_ | refine zah (by omega) ?_))))
      refine ⟨[], ?_⟩
      simp (disch := omega) 
theorem law09Of (a : RF) : CallOk Tryz.prog 97 [a.pv] [] a.pv [] := by
  refine CallOk.of_wl Tryz.func97 rfl rfl rfl (Nat.le_of_ble_eq_true rfl) ?_
  (repeat (first | with_reducible (first | refine WL.seq ?_ | refine WL.skip ?_ | refine WL.label ?_ | refine WL.block ?_ | refine WL.scope ?_ | refine WL.nilS ?_ | refine WL.reS ?_ | refine WL.exS ?_ | refine WL.nilB ?_ | refine WL.nilT ?_ | refine WL.exit ?_ | refine WL.ret ?_ | refine WL.exT ?_ | refine WL.exB ?_ | refine WL.exN rfl ?_ | refine WL.reT ?_ | refine WL.reB ?_) | ((first | refine WL.reg rfl ?_ | refine WL.regT zai rfl ?_); (conv => { arg 3; simp [prep, prep1] }); (repeat (first | (refine zae ?_ ?_; (focus (simp; done)); (conv => { arg 4; simp (disch := omega) [RF.pv, RF.cells] }); (first | (first | refine zaa ?_ | (refine zac ?_; (conv => { arg 5; simp }))))) | (refine zab rfl ?_ ?_; (focus (simp; done))))); with_reducible refine zad ?_; (first | refine ⟨rfl, ?_⟩ | refine ⟨by simp [quietB], by simp [quietU], ?_⟩ | skip)) | (refine WL.cond ?_; (conv => { arg 1; simp (disch := omega) [RF.pv, RF.cells] }); with_reducible (first | refine zaj ?_ | refine zak ?_ | refine zag (by omega) ?_ | refine zah (by omega) ?_))))
  refine ⟨[], ?_⟩
  simp (disch := omega) [RF.pv, RF.cells]
theorem law11Of (l : List RF) (hl : l.length ≤ 2513169434843) : CallOk Tryz.prog 72 [row l] [] (row l) [] := by
  have hlen := zap l
  refine CallOk.of_wl Tryz.func72 rfl rfl rfl (Nat.le_of_ble_eq_true rfl) ?_
  (repeat (first | with_reducible (first | refine WL.seq ?_ | refine WL.skip ?_ | refine WL.label ?_ | refine WL.block ?_ | refine WL.scope ?_ | refine WL.nilS ?_ | refine WL.reS ?_ | refine WL.exS ?_ | refine WL.nilB ?_ | refine WL.nilT ?_ | refine WL.exit ?_ | refine WL.ret ?_ | refine WL.exT ?_ | refine WL.exB ?_ | refine WL.exN rfl ?_ | refine WL.reT ?_ | refine WL.reB ?_) | ((first | refine WL.reg rfl ?_ | refine WL.regT zai rfl ?_); (conv => { arg 3; simp [prep, prep1] }); (repeat (first | (refine zae ?_ ?_; (focus (simp; done)); (conv => { arg 4; simp (disch := omega) [row] }); (first | (first | refine zaa ?_ | (refine zac ?_; (conv => { arg 5; simp }))))) | (refine zab rfl ?_ ?_; (focus (simp; done))))); with_reducible refine zad ?_; (first | refine ⟨rfl, ?_⟩ | refine ⟨by simp [quietB], by simp [quietU], ?_⟩ | skip)) | (refine WL.cond ?_; (conv => { arg 1; simp (disch := omega) [row] }); with_reducible (first | refine zaj ?_ | refine zak ?_ | refine zag (by omega) ?_ | refine zah (by omega) ?_))))
  refine WL.loop (fun m s => ∃ i : Nat, m = l.length - i ∧ i ≤ l.length ∧ s.frame 0 = row l ∧ s.frame 4 = .int .i64 i ∧
    ((i = 0 ∧ s.frame 3 = .nilS) ∨ ∃ G v, s.frame 3 = .sl ⟨18, G, 0⟩ v 0 i 3 ∧ s.store ⟨18, G, 0⟩ = some ⟨v, true, true, rowC (l.take i)⟩)) l.length ?_ ?_
  · exact ⟨0, by omega, by omega, by simp [row], by simp, .inl ⟨rfl, by simp⟩⟩
  rintro m ⟨f, σ, g⟩ ⟨i, rfl, hi, h0, h4, h3⟩
  simp only at h0 h4 h3
  by_cases hi' : i < l.length
  · have rx := zeh hi'
    have h3l : 3 ≤ (rowC l).length - i * 3 := by omega
    have htk : rowC (l.take (i + 1)) = rowC (l.take i) ++ (l[i]'hi').cells := by
      rw [List.take_succ_eq_append_getElem hi', zcm]; simp [rowC]
    have c1 := law09Of (l[i]'hi')
    generalize l[i]'hi' = x at *
    rcases h3 with ⟨rfl, h3⟩ | ⟨G, v, h3, hst⟩
    · have htk0 : rowC (l.take 1) = x.cells := by simpa [rowC] using htk
      have rx0 : (rowC l).take 3 = x.cells := by simpa using rx
      have h3l0 : 3 ≤ l.length * 3 := by omega
      (repeat (first | with_reducible (first | refine WL.seq ?_ | refine WL.skip ?_ | refine WL.label ?_ | refine WL.block ?_ | refine WL.scope ?_ | refine WL.nilS ?_ | refine WL.reS ?_ | refine WL.exS ?_ | refine WL.nilB ?_ | refine WL.nilT ?_ | refine WL.exit ?_ | refine WL.ret ?_ | refine WL.exT ?_ | refine WL.exB ?_ | refine WL.exN rfl ?_ | refine WL.reT ?_ | refine WL.reB ?_) | ((first | refine WL.reg rfl ?_ | refine WL.regT zai rfl ?_); (conv => { arg 3; simp [prep, prep1] }); (repeat (first | (refine zae ?_ ?_; (focus (simp; done)); (conv => { arg 4; simp (disch := omega) [h4, h0, row, hi', hlen, rx0, h3l0, RF.pv, RF.cells, h3] }); (first | (first | refine zaa ?_ | (refine zac ?_; (conv => { arg 5; simp }))) | (refine zal true rfl rfl ⟨_, Tryz.func97, rfl, rfl⟩ ?_; (conv => { arg 6; simp (disch := omega) [h4, h0, row, hi', hlen, rx0, h3l0, RF.pv, RF.cells, h3] }); refine zaf (c1) rfl ?_; (conv => { arg 5; simp (disch := omega) [h4, h0, row, hi', hlen, rx0, h3l0, RF.pv, RF.cells, h3] })))) | (refine zab rfl ?_ ?_; (focus (simp; done))))); with_reducible refine zad ?_; (first | refine ⟨rfl, ?_⟩ | refine ⟨by simp [quietB], by simp [quietU], ?_⟩ | skip)) | (refine WL.cond ?_; (conv => { arg 1; simp (disch := omega) [h4, h0, row, hi', hlen, rx0, h3l0, RF.pv, RF.cells, h3] }); with_reducible (first | refine zaj ?_ | refine zak ?_ | refine zag (by omega) ?_ | refine zah (by omega) ?_))))
      exact ⟨l.length - 1, by omega, 1, rfl, by omega, by simp [h0, row], by simp, .inr ⟨g 18, 0, by simp, by simp [htk0, RF.cells]⟩⟩
    · have hlt := zap (l.take i)
      rw [List.length_take, Nat.min_eq_left hi] at hlt
      have htk1 : (rowC (l.take i)).take (i * 3) = rowC (l.take i) := List.take_of_length_le (by omega)
      (repeat (first | with_reducible (first | refine WL.seq ?_ | refine WL.skip ?_ | refine WL.label ?_ | refine WL.block ?_ | refine WL.scope ?_ | refine WL.nilS ?_ | refine WL.reS ?_ | refine WL.exS ?_ | refine WL.nilB ?_ | refine WL.nilT ?_ | refine WL.exit ?_ | refine WL.ret ?_ | refine WL.exT ?_ | refine WL.exB ?_ | refine WL.exN rfl ?_ | refine WL.reT ?_ | refine WL.reB ?_) | ((first | refine WL.reg rfl ?_ | refine WL.regT zai rfl ?_); (conv => { arg 3; simp [prep, prep1] }); (repeat (first | (refine zae ?_ ?_; (focus (simp; done)); (conv => { arg 4; simp (disch := omega) [h4, h0, row, hi', hlen, rx, h3l, RF.pv, RF.cells, h3, hst, hlt, htk1] }); (first | (first | refine zaa ?_ | (refine zac ?_; (conv => { arg 5; simp }))) | (refine zal true rfl rfl ⟨_, Tryz.func97, rfl, rfl⟩ ?_; (conv => { arg 6; simp (disch := omega) [h4, h0, row, hi', hlen, rx, h3l, RF.pv, RF.cells, h3, hst, hlt, htk1] }); refine zaf (c1) rfl ?_; (conv => { arg 5; simp (disch := omega) [h4, h0, row, hi', hlen, rx, h3l, RF.pv, RF.cells, h3, hst, hlt, htk1] })))) | (refine zab rfl ?_ ?_; (focus (simp; done))))); with_reducible refine zad ?_; (first | refine ⟨rfl, ?_⟩ | refine ⟨by simp [quietB], by simp [quietU], ?_⟩ | skip)) | (refine WL.cond ?_; (conv => { arg 1; simp (disch := omega) [h4, h0, row, hi', hlen, rx, h3l, RF.pv, RF.cells, h3, hst, hlt, htk1] }); with_reducible (first | refine zaj ?_ | refine zak ?_ | refine zag (by omega) ?_ | refine zah (by omega) ?_))))
      exact ⟨l.length - (i + 1), by omega, i + 1, rfl, by omega, by simp [h0, row], by simp, .inr ⟨G, v + 1, by simp, by simp [htk, RF.cells]⟩⟩
  · have hia : i = l.length := by omega
    subst hia
    rcases h3 with ⟨h0', h3⟩ | ⟨G, v, h3, hst⟩
    · have : l = [] := List.eq_nil_of_length_eq_zero h0'
      subst this
      (repeat (first | with_reducible (first | refine WL.seq ?_ | refine WL.skip ?_ | refine WL.label ?_ | refine WL.block ?_ | refine WL.scope ?_ | refine WL.nilS ?_ | refine WL.reS ?_ | refine WL.exS ?_ | refine WL.nilB ?_ | refine WL.nilT ?_ | refine WL.exit ?_ | refine WL.ret ?_ | refine WL.exT ?_ | refine WL.exB ?_ | refine WL.exN rfl ?_ | refine WL.reT ?_ | refine WL.reB ?_) | ((first | refine WL.reg rfl ?_ | refine WL.regT zai rfl ?_); (conv => { arg 3; simp [prep, prep1] }); (repeat (first | (refine zae ?_ ?_; (focus (simp; done)); (conv => { arg 4; simp (disch := omega) [h4, h0, row, h3] }); (first | (first | refine zaa ?_ | (refine zac ?_; (conv => { arg 5; simp }))))) | (refine zab rfl ?_ ?_; (focus (simp; done))))); with_reducible refine zad ?_; (first | refine ⟨rfl, ?_⟩ | refine ⟨by simp [quietB], by simp [quietU], ?_⟩ | skip)) | (refine WL.cond ?_; (conv => { arg 1; simp (disch := omega) [h4, h0, row, h3] }); with_reducible (first | refine zaj ?_ | refine zak ?_ | refine zag (by omega) ?_ | refine zah (by omega) ?_))))
      refine ⟨[], ?_⟩
      simp (disch := omega) [row, rowC]
    · rw [List.take_length] at hst
      have htk1 : (rowC l).take (l.length * 3) = rowC l := List.take_of_length_le (by omega)
      (repeat (first | with_reducible (first | refine WL.seq ?_ | refine WL.skip ?_ | refine WL.label ?_ | refine WL.block ?_ | refine WL.scope ?_ | refine WL.nilS ?_ | refine WL.reS ?_ | refine WL.exS ?_ | refine WL.nilB ?_ | refine WL.nilT ?_ | refine WL.exit ?_ | refine WL.ret ?_ | refine WL.exT ?_ | refine WL.exB ?_ | refine WL.exN rfl ?_ | refine WL.reT ?_ | refine WL.reB ?_) | ((first | refine WL.reg rfl ?_ | refine WL.regT zai rfl ?_); (conv => { arg 3; simp [prep, prep1] }); (repeat (first | (refine zae ?_ ?_; (focus (simp; done)); (conv => { arg 4; simp (disch := omega) [h4, h0, row, h3, hst] }); (first | (first | refine zaa ?_ | (refine zac ?_; (conv => { arg 5; simp }))))) | (refine zab rfl ?_ ?_; (focus (simp; done))))); with_reducible refine zad ?_; (first | refine ⟨rfl, ?_⟩ | refine ⟨by simp [quietB], by simp [quietU], ?_⟩ | skip)) | (refine WL.cond ?_; (conv => { arg 1; simp (disch := omega) [h4, h0, row, h3, hst] }); with_reducible (first | refine zaj ?_ | refine zak ?_ | refine zag (by omega) ?_ | refine zah (by omega) ?_))))
      refine ⟨[], ?_⟩
      simp (disch := omega) [row, hst, hlen, htk1]
theorem zha (l : List RF) (hl : l.length ≤ 1000000) (hok : ∀ x ∈ l, x.ok 1073741824) : CallOk Tryz.prog 37 [row l] [] (rowQ (qs l)) [] := by
  have hlen := zap l
  refine CallOk.of_wl Tryz.func37 rfl rfl rfl (Nat.le_of_ble_eq_true rfl) ?_
  (repeat (first | with_reducible (first | refine WL.seq ?_ | refine WL.skip ?_ | refine WL.label ?_ | refine WL.block ?_ | refine WL.scope ?_ | refine WL.nilS ?_ | refine WL.reS ?_ | refine WL.exS ?_ | refine WL.nilB ?_ | refine WL.nilT ?_ | refine WL.exit ?_ | refine WL.ret ?_ | refine WL.exT ?_ | refine WL.exB ?_ | refine WL.exN rfl ?_ | refine WL.reT ?_ | refine WL.reB ?_) | ((first | refine WL.reg rfl ?_ | refine WL.regT zai rfl ?_); (conv => { arg 3; simp [prep, prep1] }); (repeat (first | (refine zae ?_ ?_; (focus (simp; done)); (conv => { arg 4; simp (disch := omega) [row] }); (first | (first | refine zaa ?_ | (refine zac ?_; (conv => { arg 5; simp }))))) | (refine zab rfl ?_ ?_; (focus (simp; done))))); with_reducible refine zad ?_; (first | refine ⟨rfl, ?_⟩ | refine ⟨by simp [quietB], by simp [quietU], ?_⟩ | skip)) | (refine WL.cond ?_; (conv => { arg 1; simp (disch := omega) [row] }); with_reducible (first | refine zaj ?_ | refine zak ?_ | refine zag (by omega) ?_ | refine zah (by omega) ?_))))
  refine WL.loop (fun m s => ∃ i : Nat, m = l.length - i ∧ i ≤ l.length ∧ s.frame 0 = row l ∧ s.frame 4 = .int .i64 i ∧
    ((i = 0 ∧ s.frame 3 = .nilS) ∨ ∃ G v, s.frame 3 = .sl ⟨18, G, 0⟩ v 0 i 3 ∧ s.store ⟨18, G, 0⟩ = some ⟨v, true, true, rowC ((qs (l.take i)).map RF.of)⟩)) l.length ?_ ?_
  · exact ⟨0, by omega, by omega, by simp [row], by simp, .inl ⟨rfl, by simp⟩⟩
  rintro m ⟨f, σ, g⟩ ⟨i, rfl, hi, h0, h4, h3⟩
  simp only at h0 h4 h3
  by_cases hi' : i < l.length
  · have rx := zeh hi'
    have h3l : 3 ≤ (rowC l).length - i * 3 := by omega
    have htk : rowC ((qs (l.take (i + 1))).map RF.of) = rowC ((qs (l.take i)).map RF.of) ++ (RF.of (l[i]'hi').q).cells := by
      rw [List.take_succ_eq_append_getElem hi']
      simp only [qs, List.map_append, List.map_cons, List.map_nil, zcm]
      simp [rowC]
    have hx := hok _ (List.getElem_mem hi')
    have c1 : CallOk Tryz.prog 21 [(l[i]'hi').pv] [] (RF.of (l[i]'hi').q).pv [] := zfq (l[i]'hi').neg (l[i]'hi').n (l[i]'hi').d hx.wn hx.wd (by have := hx.ln; omega) (by have := hx.ld; omega)
    generalize l[i]'hi' = x at *
    generalize RF.of x.q = w at *
    rcases h3 with ⟨rfl, h3⟩ | ⟨G, v, h3, hst⟩
    · have htk0 : rowC ((qs (l.take 1)).map RF.of) = w.cells := by simpa [rowC, qs] using htk
      have rx0 : (rowC l).take 3 = x.cells := by simpa using rx
      have h3l0 : 3 ≤ l.length * 3 := by omega
      (repeat (first | with_reducible (first | refine WL.seq ?_ | refine WL.skip ?_ | refine WL.label ?_ | refine WL.block ?_ | refine WL.scope ?_ | refine WL.nilS ?_ | refine WL.reS ?_ | refine WL.exS ?_ | refine WL.nilB ?_ | refine WL.nilT ?_ | refine WL.exit ?_ | refine WL.ret ?_ | refine WL.exT ?_ | refine WL.exB ?_ | refine WL.exN rfl ?_ | refine WL.reT ?_ | refine WL.reB ?_) | ((first | refine WL.reg rfl ?_ | refine WL.regT zai rfl ?_); (conv => { arg 3; simp [prep, prep1] }); (repeat (first | (refine zae ?_ ?_; (focus (simp; done)); (conv => { arg 4; simp (disch := omega) [h4, h0, row, hi', hlen, rx0, h3l0, RF.pv, RF.cells, h3] }); (first | (first | refine zaa ?_ | (refine zac ?_; (conv => { arg 5; simp }))) | (refine zal true rfl rfl ⟨_, Tryz.func21, rfl, rfl⟩ ?_; (conv => { arg 6; simp (disch := omega) [h4, h0, row, hi', hlen, rx0, h3l0, RF.pv, RF.cells, h3] }); refine zaf (c1) rfl ?_; (conv => { arg 5; simp (disch := omega) [h4, h0, row, hi', hlen, rx0, h3l0, RF.pv, RF.cells, h3] })))) | (refine zab rfl ?_ ?_; (focus (simp; done))))); with_reducible refine zad ?_; (first | refine ⟨rfl, ?_⟩ | refine ⟨by simp [quietB], by simp [quietU], ?_⟩ | skip)) | (refine WL.cond ?_; (conv => { arg 1; simp (disch := omega) [h4, h0, row, hi', hlen, rx0, h3l0, RF.pv, RF.cells, h3] }); with_reducible (first | refine zaj ?_ | refine zak ?_ | refine zag (by omega) ?_ | refine zah (by omega) ?_))))
      exact ⟨l.length - 1, by omega, 1, rfl, by omega, by simp [h0, row], by simp, .inr ⟨g 18, 0, by simp, by rw [htk0]; simp [RF.cells]⟩⟩
    · have hlt := zap ((qs (l.take i)).map RF.of)
      have hlt2 : ((qs (l.take i)).map RF.of).length = i := by simp [qs]; omega
      rw [hlt2] at hlt
      generalize rowC ((qs (l.take i)).map RF.of) = A at *
      have htk1 : A.take (i * 3) = A := List.take_of_length_le (by omega)
      (repeat (first | with_reducible (first | refine WL.seq ?_ | refine WL.skip ?_ | refine WL.label ?_ | refine WL.block ?_ | refine WL.scope ?_ | refine WL.nilS ?_ | refine WL.reS ?_ | refine WL.exS ?_ | refine WL.nilB ?_ | refine WL.nilT ?_ | refine WL.exit ?_ | refine WL.ret ?_ | refine WL.exT ?_ | refine WL.exB ?_ | refine WL.exN rfl ?_ | refine WL.reT ?_ | refine WL.reB ?_) | ((first | refine WL.reg rfl ?_ | refine WL.regT zai rfl ?_); (conv => { arg 3; simp [prep, prep1] }); (repeat (first | (refine zae ?_ ?_; (focus (simp; done)); (conv => { arg 4; simp (disch := omega) [h4, h0, row, hi', hlen, rx, h3l, RF.pv, RF.cells, h3, hst, hlt, htk1] }); (first | (first | refine zaa ?_ | (refine zac ?_; (conv => { arg 5; simp }))) | (refine zal true rfl rfl ⟨_, Tryz.func21, rfl, rfl⟩ ?_; (conv => { arg 6; simp (disch := omega) [h4, h0, row, hi', hlen, rx, h3l, RF.pv, RF.cells, h3, hst, hlt, htk1] }); refine zaf (c1) rfl ?_; (conv => { arg 5; simp (disch := omega) [h4, h0, row, hi', hlen, rx, h3l, RF.pv, RF.cells, h3, hst, hlt, htk1] })))) | (refine zab rfl ?_ ?_; (focus (simp; done))))); with_reducible refine zad ?_; (first | refine ⟨rfl, ?_⟩ | refine ⟨by simp [quietB], by simp [quietU], ?_⟩ | skip)) | (refine WL.cond ?_; (conv => { arg 1; simp (disch := omega) [h4, h0, row, hi', hlen, rx, h3l, RF.pv, RF.cells, h3, hst, hlt, htk1] }); with_reducible (first | refine zaj ?_ | refine zak ?_ | refine zag (by omega) ?_ | refine zah (by omega) ?_))))
      exact ⟨l.length - (i + 1), by omega, i + 1, rfl, by omega, by simp [h0, row], by simp, .inr ⟨G, v + 1, by simp, by rw [htk]; simp [RF.cells]⟩⟩
  · have hia : i = l.length := by omega
    subst hia
    rcases h3 with ⟨h0', h3⟩ | ⟨G, v, h3, hst⟩
    · have : l = [] := List.eq_nil_of_length_eq_zero h0'
      subst this
      (repeat (first | with_reducible (first | refine WL.seq ?_ | refine WL.skip ?_ | refine WL.label ?_ | refine WL.block ?_ | refine WL.scope ?_ | refine WL.nilS ?_ | refine WL.reS ?_ | refine WL.exS ?_ | refine WL.nilB ?_ | refine WL.nilT ?_ | refine WL.exit ?_ | refine WL.ret ?_ | refine WL.exT ?_ | refine WL.exB ?_ | refine WL.exN rfl ?_ | refine WL.reT ?_ | refine WL.reB ?_) | ((first | refine WL.reg rfl ?_ | refine WL.regT zai rfl ?_); (conv => { arg 3; simp [prep, prep1] }); (repeat (first | (refine zae ?_ ?_; (focus (simp; done)); (conv => { arg 4; simp (disch := omega) [h4, h0, row, h3] }); (first | (first | refine zaa ?_ | (refine zac ?_; (conv => { arg 5; simp }))))) | (refine zab rfl ?_ ?_; (focus (simp; done))))); with_reducible refine zad ?_; (first | refine ⟨rfl, ?_⟩ | refine ⟨by simp [quietB], by simp [quietU], ?_⟩ | skip)) | (refine WL.cond ?_; (conv => { arg 1; simp (disch := omega) [h4, h0, row, h3] }); with_reducible (first | refine zaj ?_ | refine zak ?_ | refine zag (by omega) ?_ | refine zah (by omega) ?_))))
      refine ⟨[], ?_⟩
      simp (disch := omega) [row, rowC, rowQ, qs]
    · rw [List.take_length] at hst
      have hlt := zap ((qs l).map RF.of)
      have hlt2 : ((qs l).map RF.of).length = l.length := by simp [qs]
      rw [hlt2] at hlt
      unfold rowQ row
      rw [hlt2]
      unfold row at h0
      generalize rowC ((qs l).map RF.of) = A at *
      have htk1 : A.take (l.length * 3) = A := List.take_of_length_le (by omega)
      (repeat (first | with_reducible (first | refine WL.seq ?_ | refine WL.skip ?_ | refine WL.label ?_ | refine WL.block ?_ | refine WL.scope ?_ | refine WL.nilS ?_ | refine WL.reS ?_ | refine WL.exS ?_ | refine WL.nilB ?_ | refine WL.nilT ?_ | refine WL.exit ?_ | refine WL.ret ?_ | refine WL.exT ?_ | refine WL.exB ?_ | refine WL.exN rfl ?_ | refine WL.reT ?_ | refine WL.reB ?_) | ((first | refine WL.reg rfl ?_ | refine WL.regT zai rfl ?_); (conv => { arg 3; simp [prep, prep1] }); (repeat (first | (refine zae ?_ ?_; (focus (simp; done)); (conv => { arg 4; simp (disch := omega) [h4, h0, row, h3, hst] }); (first | (first | refine zaa ?_ | (refine zac ?_; (conv => { arg 5; simp }))))) | (refine zab rfl ?_ ?_; (focus (simp; done))))); with_reducible refine zad ?_; (first | refine ⟨rfl, ?_⟩ | refine ⟨by simp [quietB], by simp [quietU], ?_⟩ | skip)) | (refine WL.cond ?_; (conv => { arg 1; simp (disch := omega) [h4, h0, row, h3, hst] }); with_reducible (first | refine zaj ?_ | refine zak ?_ | refine zag (by omega) ?_ | refine zah (by omega) ?_))))
      refine ⟨[], ?_⟩
      simp (disch := omega) [hst, hlt, htk1]
theorem refRSame (a b : List Rat) (ha : ∀ q ∈ a, szQ q ≤ 1073741824) (hb : ∀ q ∈ b, szQ q ≤ 1073741824) (la : a.length ≤ 1000000) (lb : b.length ≤ 1000000) :
    CallOk Tryz.prog 56 [rowQ a, rowQ b] [] (.bool (decide (a = b))) [] := by
  have hla := zap (a.map RF.of)
  have hlb := zap (b.map RF.of)
  rw [List.length_map] at hla hlb
  have era : rowQ a = .rd (rowC (a.map RF.of)) a.length := by simp [rowQ, row]
  have erb : rowQ b = .rd (rowC (b.map RF.of)) b.length := by simp [rowQ, row]
  rw [era, erb]
  by_cases hl : a.length = b.length
  · have hlI : ((a.length : Nat) : Int) = b.length := by omega
    refine CallOk.of_wl Tryz.func56 rfl rfl rfl (Nat.le_of_ble_eq_true rfl) ?_
    (repeat (first | with_reducible (first | refine WL.seq ?_ | refine WL.skip ?_ | refine WL.label ?_ | refine WL.block ?_ | refine WL.scope ?_ | refine WL.nilS ?_ | refine WL.reS ?_ | refine WL.exS ?_ | refine WL.nilB ?_ | refine WL.nilT ?_ | refine WL.exit ?_ | refine WL.ret ?_ | refine WL.exT ?_ | refine WL.exB ?_ | refine WL.exN rfl ?_ | refine WL.reT ?_ | refine WL.reB ?_) | ((first | refine WL.reg rfl ?_ | refine WL.regT zai rfl ?_); (conv => { arg 3; simp [prep, prep1] }); (repeat (first | (refine zae ?_ ?_; (focus (simp; done)); (conv => { arg 4; simp (disch := omega) [hlI] }); (first | (first | refine zaa ?_ | (refine zac ?_; (conv => { arg 5; simp }))))) | (refine zab rfl ?_ ?_; (focus (simp; done))))); with_reducible refine zad ?_; (first | refine ⟨rfl, ?_⟩ | refine ⟨by simp [quietB], by simp [quietU], ?_⟩ | skip)) | (refine WL.cond ?_; (conv => { arg 1; simp (disch := omega) [hlI] }); with_reducible (first | refine zaj ?_ | refine zak ?_ | refine zag (by omega) ?_ | refine zah (by omega) ?_))))
    refine WL.loop (fun m s => ∃ i : Nat, m = a.length - i ∧ i ≤ a.length ∧ s.frame 0 = .rd (rowC (a.map RF.of)) a.length ∧ s.frame 1 = .rd (rowC (b.map RF.of)) b.length ∧ s.frame 5 = .int .i64 i ∧ a.take i = b.take i) a.length ?_ ?_
    · exact ⟨0, by omega, by omega, by simp [hl], by simp, by simp, by simp⟩
    rintro m ⟨f, σ, g⟩ ⟨i, rfl, hi, h0, h1, h5, hq⟩
    simp only at h0 h1 h5
    by_cases hi' : i < a.length
    · have hib : i < b.length := by omega
      have ra := zdo hi'
      have rb := zdo hib
      have hsa : a.take (i + 1) = a.take i ++ [a[i]'hi'] := List.take_succ_eq_append_getElem hi'
      have hsb : b.take (i + 1) = b.take i ++ [b[i]'hib] := List.take_succ_eq_append_getElem hib
      have c1 : CallOk Tryz.prog 96 [(RF.of (a[i]'hi')).pv, (RF.of (b[i]'hib)).pv] [] _ [] := refFSame _ _ (ha _ (List.getElem_mem hi')) (hb _ (List.getElem_mem hib))
      have h3a : 3 ≤ (rowC (a.map RF.of)).length - i * 3 := by omega
      have h3b : 3 ≤ (rowC (b.map RF.of)).length - i * 3 := by omega
      generalize rowC (a.map RF.of) = A at *
      generalize rowC (b.map RF.of) = B at *
      by_cases he : a[i]'hi' = b[i]'hib
      · rw [decide_eq_true he] at c1
        have hqq : a.take (i + 1) = b.take (i + 1) := by rw [hsa, hsb, hq, he]
        clear hsa hsb
        generalize RF.of (a[i]'hi') = x at *
        generalize RF.of (b[i]'hib) = y at *
        (repeat (first | with_reducible (first | refine WL.seq ?_ | refine WL.skip ?_ | refine WL.label ?_ | refine WL.block ?_ | refine WL.scope ?_ | refine WL.nilS ?_ | refine WL.reS ?_ | refine WL.exS ?_ | refine WL.nilB ?_ | refine WL.nilT ?_ | refine WL.exit ?_ | refine WL.ret ?_ | refine WL.exT ?_ | refine WL.exB ?_ | refine WL.exN rfl ?_ | refine WL.reT ?_ | refine WL.reB ?_) | ((first | refine WL.reg rfl ?_ | refine WL.regT zai rfl ?_); (conv => { arg 3; simp [prep, prep1] }); (repeat (first | (refine zae ?_ ?_; (focus (simp; done)); (conv => { arg 4; simp (disch := omega) [h5, hi', hib, h0, h1, hla, hlb, ra, rb, h3a, h3b, RF.pv, RF.cells] }); (first | (first | refine zaa ?_ | (refine zac ?_; (conv => { arg 5; simp }))) | (refine zal true rfl rfl ⟨_, Tryz.func96, rfl, rfl⟩ ?_; (conv => { arg 6; simp (disch := omega) [h5, hi', hib, h0, h1, hla, hlb, ra, rb, h3a, h3b, RF.pv, RF.cells] }); refine zaf (c1) rfl ?_; (conv => { arg 5; simp (disch := omega) [h5, hi', hib, h0, h1, hla, hlb, ra, rb, h3a, h3b, RF.pv, RF.cells] })))) | (refine zab rfl ?_ ?_; (focus (simp; done))))); with_reducible refine zad ?_; (first | refine ⟨rfl, ?_⟩ | refine ⟨by simp [quietB], by simp [quietU], ?_⟩ | skip)) | (refine WL.cond ?_; (conv => { arg 1; simp (disch := omega) [h5, hi', hib, h0, h1, hla, hlb, ra, rb, h3a, h3b, RF.pv, RF.cells] }); with_reducible (first | refine zaj ?_ | refine zak ?_ | refine zag (by omega) ?_ | refine zah (by omega) ?_))))
        exact ⟨a.length - (i + 1), by omega, i + 1, rfl, by omega, by simp [h0], by simp [h1], by simp, hqq⟩
      · rw [decide_eq_false he] at c1
        have hne : ¬ a = b := fun h => he (by subst h; rfl)
        clear hsa hsb
        generalize RF.of (a[i]'hi') = x at *
        generalize RF.of (b[i]'hib) = y at *
        (repeat (first | with_reducible (first | refine WL.seq ?_ | refine WL.skip ?_ | refine WL.label ?_ | refine WL.block ?_ | refine WL.scope ?_ | refine WL.nilS ?_ | refine WL.reS ?_ | refine WL.exS ?_ | refine WL.nilB ?_ | refine WL.nilT ?_ | refine WL.exit ?_ | refine WL.ret ?_ | refine WL.exT ?_ | refine WL.exB ?_ | refine WL.exN rfl ?_ | refine WL.reT ?_ | refine WL.reB ?_) | ((first | refine WL.reg rfl ?_ | refine WL.regT zai rfl ?_); (conv => { arg 3; simp [prep, prep1] }); (repeat (first | (refine zae ?_ ?_; (focus (simp; done)); (conv => { arg 4; simp (disch := omega) [h5, hi', hib, h0, h1, hla, hlb, ra, rb, h3a, h3b, RF.pv, RF.cells] }); (first | (first | refine zaa ?_ | (refine zac ?_; (conv => { arg 5; simp }))) | (refine zal true rfl rfl ⟨_, Tryz.func96, rfl, rfl⟩ ?_; (conv => { arg 6; simp (disch := omega) [h5, hi', hib, h0, h1, hla, hlb, ra, rb, h3a, h3b, RF.pv, RF.cells] }); refine zaf (c1) rfl ?_; (conv => { arg 5; simp (disch := omega) [h5, hi', hib, h0, h1, hla, hlb, ra, rb, h3a, h3b, RF.pv, RF.cells] })))) | (refine zab rfl ?_ ?_; (focus (simp; done))))); with_reducible refine zad ?_; (first | refine ⟨rfl, ?_⟩ | refine ⟨by simp [quietB], by simp [quietU], ?_⟩ | skip)) | (refine WL.cond ?_; (conv => { arg 1; simp (disch := omega) [h5, hi', hib, h0, h1, hla, hlb, ra, rb, h3a, h3b, RF.pv, RF.cells] }); with_reducible (first | refine zaj ?_ | refine zak ?_ | refine zag (by omega) ?_ | refine zah (by omega) ?_))))
        refine ⟨[], ?_⟩
        simp (disch := omega) [hne]
    · have hia : i = a.length := by omega
      subst hia
      have hqq : a = b := by rwa [List.take_length, hl, List.take_length] at hq
      (repeat (first | with_reducible (first | refine WL.seq ?_ | refine WL.skip ?_ | refine WL.label ?_ | refine WL.block ?_ | refine WL.scope ?_ | refine WL.nilS ?_ | refine WL.reS ?_ | refine WL.exS ?_ | refine WL.nilB ?_ | refine WL.nilT ?_ | refine WL.exit ?_ | refine WL.ret ?_ | refine WL.exT ?_ | refine WL.exB ?_ | refine WL.exN rfl ?_ | refine WL.reT ?_ | refine WL.reB ?_) | ((first | refine WL.reg rfl ?_ | refine WL.regT zai rfl ?_); (conv => { arg 3; simp [prep, prep1] }); (repeat (first | (refine zae ?_ ?_; (focus (simp; done)); (conv => { arg 4; simp (disch := omega) [h5, h0] }); (first | (first | refine zaa ?_ | (refine zac ?_; (conv => { arg 5; simp }))))) | (refine zab rfl ?_ ?_; (focus (simp; done))))); with_reducible refine zad ?_; (first | refine ⟨rfl, ?_⟩ | refine ⟨by simp [quietB], by simp [quietU], ?_⟩ | skip)) | (refine WL.cond ?_; (conv => { arg 1; simp (disch := omega) [h5, h0] }); with_reducible (first | refine zaj ?_ | refine zak ?_ | refine zag (by omega) ?_ | refine zah (by omega) ?_))))
      refine ⟨[], ?_⟩
      simp (disch := omega) [hqq]
  · have hne : ¬ a = b := fun h => hl (by rw [h])
    have hlI : ¬ ((a.length : Nat) : Int) = b.length := by omega
    refine CallOk.of_wl Tryz.func56 rfl rfl rfl (Nat.le_of_ble_eq_true rfl) ?_
    (repeat (first | with_reducible (first | refine WL.seq ?_ | refine WL.skip ?_ | refine WL.label ?_ | refine WL.block ?_ | refine WL.scope ?_ | refine WL.nilS ?_ | refine WL.reS ?_ | refine WL.exS ?_ | refine WL.nilB ?_ | refine WL.nilT ?_ | refine WL.exit ?_ | refine WL.ret ?_ | refine WL.exT ?_ | refine WL.exB ?_ | refine WL.exN rfl ?_ | refine WL.reT ?_ | refine WL.reB ?_) | ((first | refine WL.reg rfl ?_ | refine WL.regT zai rfl ?_); (conv => { arg 3; simp [prep, prep1] }); (repeat (first | (refine zae ?_ ?_; (focus (simp; done)); (conv => { arg 4; simp (disch := omega) [hlI] }); (first | (first | refine zaa ?_ | (refine zac ?_; (conv => { arg 5; simp }))))) | (refine zab rfl ?_ ?_; (focus (simp; done))))); with_reducible refine zad ?_; (first | refine ⟨rfl, ?_⟩ | refine ⟨by simp [quietB], by simp [quietU], ?_⟩ | skip)) | (refine WL.cond ?_; (conv => { arg 1; simp (disch := omega) [hlI] }); with_reducible (first | refine zaj ?_ | refine zak ?_ | refine zag (by omega) ?_ | refine zah (by omega) ?_))))
    refine ⟨[], ?_⟩
    simp (disch := omega) [hne]
theorem zpz (a b : List Rat) (ha : ∀ q ∈ a, szQ q ≤ 1073741824) (hb : ∀ q ∈ b, szQ q ≤ 1073741824) (la : a.length ≤ 1000000) (lb : b.length ≤ 1000000) :
    CallOk Tryz.prog 22 [rowQ a, rowQ b] [] (.bool (decide (a = b))) [] := by
  have c1 : CallOk _ _ [rowQ a] _ (rowQ a) _ := law11Of (a.map RF.of) (by simp; omega)
  have c2 := refRSame a b ha hb la lb
  simp only [rowQ, row, List.length_map] at *
  generalize rowC (a.map RF.of) = A at *
  generalize rowC (b.map RF.of) = B at *
  refine CallOk.of_wl Tryz.func22 rfl rfl rfl (Nat.le_of_ble_eq_true rfl) ?_
  (repeat (first | with_reducible (first | refine WL.seq ?_ | refine WL.skip ?_ | refine WL.label ?_ | refine WL.block ?_ | refine WL.scope ?_ | refine WL.nilS ?_ | refine WL.reS ?_ | refine WL.exS ?_ | refine WL.nilB ?_ | refine WL.nilT ?_ | refine WL.exit ?_ | refine WL.ret ?_ | refine WL.exT ?_ | refine WL.exB ?_ | refine WL.exN rfl ?_ | refine WL.reT ?_ | refine WL.reB ?_) | ((first | refine WL.reg rfl ?_ | refine WL.regT zai rfl ?_); (conv => { arg 3; simp [prep, prep1] }); (repeat (first | (refine zae ?_ ?_; (focus (simp; done)); (conv => { arg 4; simp (disch := omega)  }); (first | (first | refine zaa ?_ | (refine zac ?_; (conv => { arg 5; simp }))) | ((first | refine zal true rfl rfl ⟨_, Tryz.func72, rfl, rfl⟩ ?_ | refine zal true rfl rfl ⟨_, Tryz.func56, rfl, rfl⟩ ?_); (conv => { arg 6; simp (disch := omega)  }); (first | refine zaf (c1) rfl ?_ | refine zaf (c2) rfl ?_); (conv => { arg 5; simp (disch := omega)  })))) | (refine zab rfl ?_ ?_; (focus (simp; done))))); with_reducible refine zad ?_; (first | refine ⟨rfl, ?_⟩ | refine ⟨by simp [quietB], by simp [quietU], ?_⟩ | skip)) | (refine WL.cond ?_; (conv => { arg 1; simp (disch := omega)  }); with_reducible (first | refine zaj ?_ | refine zak ?_ | refine zag (by omega) ?_ | refine zah (by omega) ?_))))
  refine ⟨[], ?_⟩
  simp (disch := omega) 
end Go.Proofs.YthgldcflcmlgpaaGreatDoorE
end
section
/- Polynomials: trimmed, their values, their derivatives; a cubic by its ends is just the polynomial (plain). -/
set_option linter.unusedVariables false
set_option linter.unusedSimpArgs false
namespace Go.Proofs.YthgldcflcmlgpaaGreatDoorE
open Go.RowKit
def lastNZ (l : List Rat) : Nat → Nat
  | 0 => 0
  | n + 1 => if l.getD n 0 = 0 then lastNZ l n else n + 1
def trimQ (l : List Rat) : List Rat := l.take (lastNZ l l.length)
def evalQ (l : List Rat) (x : Rat) : Rat := l.foldr (fun a s => s * x + a) 0
def diffL (l : List Rat) : List Rat := (List.range (l.length - 1)).map fun i => (((i + 1 : Nat) : Int) : Rat) * l.getD (i + 1) 0
theorem evalQ_snoc0 (l : List Rat) (x : Rat) : evalQ (l ++ [0]) x = evalQ l x := by
  unfold evalQ; rw [List.foldr_append]
  simp [Rat.zero_mul, Rat.add_zero]
theorem zjk (l : List Rat) (x : Rat) : ∀ n, n ≤ l.length → evalQ (l.take (lastNZ l n)) x = evalQ (l.take n) x
  | 0, _ => rfl
  | n + 1, h => by
    unfold lastNZ
    split
    · rename_i h0
      rw [zjk l x n (by omega)]
      have hl : n < l.length := by omega
      rw [List.take_succ_eq_append_getElem hl]
      rw [List.getD_eq_getElem?_getD, List.getElem?_eq_getElem hl, Option.getD_some] at h0
      rw [h0, evalQ_snoc0]
    · rfl
theorem evalQ_trim (l : List Rat) (x : Rat) : evalQ (trimQ l) x = evalQ l x := by
  unfold trimQ; rw [zjk l x _ (Nat.le_refl _), List.take_length]
end Go.Proofs.YthgldcflcmlgpaaGreatDoorE
end
section
/- Rows so many times; polynomials trimmed, their values, their derivatives; a fraction without its sign. -/
set_option linter.unusedVariables false
set_option linter.unusedSimpArgs false
namespace Go.Proofs.YthgldcflcmlgpaaGreatDoorE
open Go.RowKit
set_option maxRecDepth 100000
attribute [local simp] List.getElem?_cons_zero List.getElem?_cons_succ List.getElem?_nil wrap_i64 stOf st0 effF effC evalV evalL zfd zcr pv_t pv_c pv_g pv_f ofConst binV binI lenV foldV mx2 mn2 unV convV extractV idxV indexV fieldAddrV fieldV partV sliceV boundsV loadL live storeE appendE srcV litE makeE IntKind.bits copyE boxE allocE flatParts flatCs flatC allParts cellsOf solid leafB fillL frzL buildV fillP placeS eqFl eqCell St.eff St.put wrs callE renP renA renC renI nid newL renB noEff endK endR resA resL resV expP expA expC expN expL expBs expB idx thenQ blockQ wantK if_pos if_neg wrap_u32 zas beqI bneI w32 wl zar Int.natCast_inj
def absQ (q : Rat) : Rat := if q < 0 then -q else q
def scaleQ (c : Rat) (l : List Rat) : List Rat := l.map (c * ·)
theorem rowC_takeQ (l : List Rat) (i : Nat) : (rowC (l.map RF.of)).take (i * 3) = rowC ((l.take i).map RF.of) := by rw [zlm, List.map_take]
theorem zjz (K : Nat) (x : Rat) (hx : szQ x ≤ K) : ∀ (l : List Rat), (∀ q ∈ l, szQ q ≤ K) → szQ (evalQ l x) ≤ l.length * (2 * K + 1) + 1
  | [], _ => by have := zev; simp only [evalQ, List.foldr_nil]; omega
  | a :: l, h => by
    have ih := zjz K x hx l (fun q hq => h q (by simp [hq]))
    have h1 := zcz (evalQ l x) x
    have h2 := zgi (evalQ l x * x) a
    have h3 := h a (by simp)
    have e : evalQ (a :: l) x = evalQ l x * x + a := rfl
    rw [e, List.length_cons, Nat.succ_mul]
    omega
theorem zik (l : List Rat) : (diffL l).length = l.length - 1 := by simp [diffL]
theorem diffL_take (l : List Rat) (i : Nat) (h : i + 1 < l.length) : (diffL l).take (i + 1) = (diffL l).take i ++ [(((i + 1 : Nat) : Int) : Rat) * l.getD (i + 1) 0] := by
  rw [List.take_succ_eq_append_getElem (by rw [zik]; omega)]
  simp [diffL]
theorem szQ_diff (l : List Rat) (K : Nat) (h : ∀ q ∈ l, szQ q ≤ K) (hl : l.length ≤ 1000000) : ∀ q ∈ diffL l, szQ q ≤ K + 1 := by
  intro q hq
  simp only [diffL, List.mem_map, List.mem_range] at hq
  obtain ⟨i, hi, rfl⟩ := hq
  have h1 := zcz (((i + 1 : Nat) : Int) : Rat) (l.getD (i + 1) 0)
  have h2 := zda ((i + 1 : Nat) : Int) (by omega)
  have h3 : szQ (l.getD (i + 1) 0) ≤ K := by
    rw [List.getD_eq_getElem?_getD, List.getElem?_eq_getElem (by omega)]
    exact h _ (List.getElem_mem _)
  omega
theorem refFZero (p : Rat) : CallOk Tryz.prog 159 [frQ p] [] (.bool (decide (p = 0))) [] := by
  have e : decide (p = 0) = decide ((nw p.num.natAbs).length = 0) := decide_eq_decide.2 ⟨fun h => by subst h; simp [zaw], fun h => by
    have := zdi h
    exact Rat.num_eq_zero.1 (by omega)⟩
  rw [e]
  unfold frQ
  generalize nw p.num.natAbs = N at *
  refine CallOk.of_wl Tryz.func159 rfl rfl rfl (Nat.le_of_ble_eq_true rfl) ?_
  (repeat (first | with_reducible (first | refine WL.seq ?_ | refine WL.skip ?_ | refine WL.label ?_ | refine WL.block ?_ | refine WL.scope ?_ | refine WL.nilS ?_ | refine WL.reS ?_ | refine WL.exS ?_ | refine WL.nilB ?_ | refine WL.nilT ?_ | refine WL.exit ?_ | refine WL.ret ?_ | refine WL.exT ?_ | refine WL.exB ?_ | refine WL.exN rfl ?_ | refine WL.reT ?_ | refine WL.reB ?_) | ((first | refine WL.reg rfl ?_ | refine WL.regT zai rfl ?_); (conv => { arg 3; simp [prep, prep1] }); (repeat (first | (refine zae ?_ ?_; (focus (simp; done)); (conv => { arg 4; simp (disch := omega) [fr] }); (first | (first | refine zaa ?_ | (refine zac ?_; (conv => { arg 5; simp }))))) | (refine zab rfl ?_ ?_; (focus (simp; done))))); with_reducible refine zad ?_; (first | refine ⟨rfl, ?_⟩ | refine ⟨by simp [quietB], by simp [quietU], ?_⟩ | skip)) | (refine WL.cond ?_; (conv => { arg 1; simp (disch := omega) [fr] }); with_reducible (first | refine zaj ?_ | refine zak ?_ | refine zag (by omega) ?_ | refine zah (by omega) ?_))))
  refine ⟨[], ?_⟩
  simp (disch := omega) 
theorem zgz (Q : List Rat) (hQ : Q.length ≤ 1000000) : CallOk Tryz.prog 118 [rowQ Q] [] (rowQ (trimQ Q)) [] := by
  have hlen := zap (Q.map RF.of)
  have hQl : (Q.map RF.of).length = Q.length := by simp
  rw [hQl] at hlen
  have era : rowQ Q = .rd (rowC (Q.map RF.of)) Q.length := by simp [rowQ, row]
  rw [era]
  unfold trimQ
  refine CallOk.of_wl Tryz.func118 rfl rfl rfl (Nat.le_of_ble_eq_true rfl) ?_
  (repeat (first | with_reducible (first | refine WL.seq ?_ | refine WL.skip ?_ | refine WL.label ?_ | refine WL.block ?_ | refine WL.scope ?_ | refine WL.nilS ?_ | refine WL.reS ?_ | refine WL.exS ?_ | refine WL.nilB ?_ | refine WL.nilT ?_ | refine WL.exit ?_ | refine WL.ret ?_ | refine WL.exT ?_ | refine WL.exB ?_ | refine WL.exN rfl ?_ | refine WL.reT ?_ | refine WL.reB ?_) | ((first | refine WL.reg rfl ?_ | refine WL.regT zai rfl ?_); (conv => { arg 3; simp [prep, prep1] }); (repeat (first | (refine zae ?_ ?_; (focus (simp; done)); (conv => { arg 4; simp (disch := omega)  }); (first | (first | refine zaa ?_ | (refine zac ?_; (conv => { arg 5; simp }))))) | (refine zab rfl ?_ ?_; (focus (simp; done))))); with_reducible refine zad ?_; (first | refine ⟨rfl, ?_⟩ | refine ⟨by simp [quietB], by simp [quietU], ?_⟩ | skip)) | (refine WL.cond ?_; (conv => { arg 1; simp (disch := omega)  }); with_reducible (first | refine zaj ?_ | refine zak ?_ | refine zag (by omega) ?_ | refine zah (by omega) ?_))))
  refine WL.loop (fun m s => m ≤ Q.length ∧ s.frame 0 = .rd (rowC (Q.map RF.of)) Q.length ∧ s.frame 3 = .int .i64 m ∧ lastNZ Q m = lastNZ Q Q.length) Q.length ?_ ?_
  · exact ⟨by omega, by simp, by simp, rfl⟩
  rintro m ⟨f, σ, g⟩ ⟨hm, h0, h3, hL⟩
  simp only at h0 h3
  cases m with
  | zero =>
    (repeat (first | with_reducible (first | refine WL.seq ?_ | refine WL.skip ?_ | refine WL.label ?_ | refine WL.block ?_ | refine WL.scope ?_ | refine WL.nilS ?_ | refine WL.reS ?_ | refine WL.exS ?_ | refine WL.nilB ?_ | refine WL.nilT ?_ | refine WL.exit ?_ | refine WL.ret ?_ | refine WL.exT ?_ | refine WL.exB ?_ | refine WL.exN rfl ?_ | refine WL.reT ?_ | refine WL.reB ?_) | ((first | refine WL.reg rfl ?_ | refine WL.regT zai rfl ?_); (conv => { arg 3; simp [prep, prep1] }); (repeat (first | (refine zae ?_ ?_; (focus (simp; done)); (conv => { arg 4; simp (disch := omega) [h0, h3] }); (first | (first | refine zaa ?_ | (refine zac ?_; (conv => { arg 5; simp }))))) | (refine zab rfl ?_ ?_; (focus (simp; done))))); with_reducible refine zad ?_; (first | refine ⟨rfl, ?_⟩ | refine ⟨by simp [quietB], by simp [quietU], ?_⟩ | skip)) | (refine WL.cond ?_; (conv => { arg 1; simp (disch := omega) [h0, h3] }); with_reducible (first | refine zaj ?_ | refine zak ?_ | refine zag (by omega) ?_ | refine zah (by omega) ?_))))
    refine ⟨[], ?_⟩
    rw [← hL]
    simp (disch := omega) [rowQ, row, rowC, lastNZ]
  | succ m =>
    have hml : m < Q.length := by omega
    have rx := zdo hml
    have h3l : 3 ≤ (rowC (Q.map RF.of)).length - m * 3 := by omega
    have hge : Q.getD m 0 = Q[m]'hml := by rw [List.getD_eq_getElem?_getD, List.getElem?_eq_getElem hml]; rfl
    have hL2 : lastNZ Q (m + 1) = if Q[m]'hml = 0 then lastNZ Q m else m + 1 := by rw [← hge]; rfl
    have cS : CallOk Tryz.prog 159 [(RF.of (Q[m]'hml)).pv] [] _ [] := refFZero (Q[m]'hml)
    have htk := rowC_takeQ Q (m + 1)
    generalize Q[m]'hml = q at *
    generalize RF.of q = y at *
    by_cases hz : q = 0
    · rw [decide_eq_true hz] at cS
      rw [if_pos hz] at hL2
      (repeat (first | with_reducible (first | refine WL.seq ?_ | refine WL.skip ?_ | refine WL.label ?_ | refine WL.block ?_ | refine WL.scope ?_ | refine WL.nilS ?_ | refine WL.reS ?_ | refine WL.exS ?_ | refine WL.nilB ?_ | refine WL.nilT ?_ | refine WL.exit ?_ | refine WL.ret ?_ | refine WL.exT ?_ | refine WL.exB ?_ | refine WL.exN rfl ?_ | refine WL.reT ?_ | refine WL.reB ?_) | ((first | refine WL.reg rfl ?_ | refine WL.regT zai rfl ?_); (conv => { arg 3; simp [prep, prep1] }); (repeat (first | (refine zae ?_ ?_; (focus (simp; done)); (conv => { arg 4; simp (disch := omega) [h0, h3, hml, hlen, h3l, rx, RF.pv, RF.cells] }); (first | (first | refine zaa ?_ | (refine zac ?_; (conv => { arg 5; simp }))) | (refine zal true rfl rfl ⟨_, Tryz.func159, rfl, rfl⟩ ?_; (conv => { arg 6; simp (disch := omega) [h0, h3, hml, hlen, h3l, rx, RF.pv, RF.cells] }); refine zaf (cS) rfl ?_; (conv => { arg 5; simp (disch := omega) [h0, h3, hml, hlen, h3l, rx, RF.pv, RF.cells] })))) | (refine zab rfl ?_ ?_; (focus (simp; done))))); with_reducible refine zad ?_; (first | refine ⟨rfl, ?_⟩ | refine ⟨by simp [quietB], by simp [quietU], ?_⟩ | skip)) | (refine WL.cond ?_; (conv => { arg 1; simp (disch := omega) [h0, h3, hml, hlen, h3l, rx, RF.pv, RF.cells] }); with_reducible (first | refine zaj ?_ | refine zak ?_ | refine zag (by omega) ?_ | refine zah (by omega) ?_))))
      exact ⟨m, by omega, by omega, by simp [h0], by simp, by rw [← hL, hL2]⟩
    · rw [decide_eq_false hz] at cS
      rw [if_neg hz] at hL2
      have hl5 : ((Q.take (m + 1)).map RF.of).length = m + 1 := by simp; omega
      have hlt := zap ((Q.take (m + 1)).map RF.of)
      rw [hl5] at hlt
      rw [← hL, hL2]
      have eR : rowQ (Q.take (m + 1)) = .rd (rowC ((Q.take (m + 1)).map RF.of)) (m + 1) := by unfold rowQ row; rw [hl5]
      rw [eR]
      generalize rowC ((Q.take (m + 1)).map RF.of) = T at *
      have htT : T.take ((m + 1) * 3) = T := List.take_of_length_le (by omega)
      (repeat (first | with_reducible (first | refine WL.seq ?_ | refine WL.skip ?_ | refine WL.label ?_ | refine WL.block ?_ | refine WL.scope ?_ | refine WL.nilS ?_ | refine WL.reS ?_ | refine WL.exS ?_ | refine WL.nilB ?_ | refine WL.nilT ?_ | refine WL.exit ?_ | refine WL.ret ?_ | refine WL.exT ?_ | refine WL.exB ?_ | refine WL.exN rfl ?_ | refine WL.reT ?_ | refine WL.reB ?_) | ((first | refine WL.reg rfl ?_ | refine WL.regT zai rfl ?_); (conv => { arg 3; simp [prep, prep1] }); (repeat (first | (refine zae ?_ ?_; (focus (simp; done)); (conv => { arg 4; simp (disch := omega) [h0, h3, hml, hlen, h3l, rx, RF.pv, RF.cells, htk, hlt] }); (first | (first | refine zaa ?_ | (refine zac ?_; (conv => { arg 5; simp }))) | (refine zal true rfl rfl ⟨_, Tryz.func159, rfl, rfl⟩ ?_; (conv => { arg 6; simp (disch := omega) [h0, h3, hml, hlen, h3l, rx, RF.pv, RF.cells, htk, hlt] }); refine zaf (cS) rfl ?_; (conv => { arg 5; simp (disch := omega) [h0, h3, hml, hlen, h3l, rx, RF.pv, RF.cells, htk, hlt] })))) | (refine zab rfl ?_ ?_; (focus (simp; done))))); with_reducible refine zad ?_; (first | refine ⟨rfl, ?_⟩ | refine ⟨by simp [quietB], by simp [quietU], ?_⟩ | skip)) | (refine WL.cond ?_; (conv => { arg 1; simp (disch := omega) [h0, h3, hml, hlen, h3l, rx, RF.pv, RF.cells, htk, hlt] }); with_reducible (first | refine zaj ?_ | refine zak ?_ | refine zag (by omega) ?_ | refine zah (by omega) ?_))))
      refine ⟨[], ?_⟩
      simp (disch := omega) [htT, hlt]
theorem zqy (Q : List Rat) (i : Nat) (hi : i ≤ 1000000) : CallOk Tryz.prog 158 [rowQ Q, .int .i64 i] [] (frQ (Q.getD i 0)) [] := by
  have hlen := zap (Q.map RF.of)
  have hQl : (Q.map RF.of).length = Q.length := by simp
  rw [hQl] at hlen
  have era : rowQ Q = .rd (rowC (Q.map RF.of)) Q.length := by simp [rowQ, row]
  rw [era]
  by_cases h : i < Q.length
  · have rx := zdo h
    have h3l : 3 ≤ (rowC (Q.map RF.of)).length - i * 3 := by omega
    have hge : Q.getD i 0 = Q[i]'h := by rw [List.getD_eq_getElem?_getD, List.getElem?_eq_getElem h]; rfl
    rw [hge, show frQ (Q[i]'h) = (RF.of (Q[i]'h)).pv from rfl]
    generalize RF.of (Q[i]'h) = y at *
    refine CallOk.of_wl Tryz.func158 rfl rfl rfl (Nat.le_of_ble_eq_true rfl) ?_
    (repeat (first | with_reducible (first | refine WL.seq ?_ | refine WL.skip ?_ | refine WL.label ?_ | refine WL.block ?_ | refine WL.scope ?_ | refine WL.nilS ?_ | refine WL.reS ?_ | refine WL.exS ?_ | refine WL.nilB ?_ | refine WL.nilT ?_ | refine WL.exit ?_ | refine WL.ret ?_ | refine WL.exT ?_ | refine WL.exB ?_ | refine WL.exN rfl ?_ | refine WL.reT ?_ | refine WL.reB ?_) | ((first | refine WL.reg rfl ?_ | refine WL.regT zai rfl ?_); (conv => { arg 3; simp [prep, prep1] }); (repeat (first | (refine zae ?_ ?_; (focus (simp; done)); (conv => { arg 4; simp (disch := omega) [h, hlen, h3l, rx, RF.pv, RF.cells] }); (first | (first | refine zaa ?_ | (refine zac ?_; (conv => { arg 5; simp }))))) | (refine zab rfl ?_ ?_; (focus (simp; done))))); with_reducible refine zad ?_; (first | refine ⟨rfl, ?_⟩ | refine ⟨by simp [quietB], by simp [quietU], ?_⟩ | skip)) | (refine WL.cond ?_; (conv => { arg 1; simp (disch := omega) [h, hlen, h3l, rx, RF.pv, RF.cells] }); with_reducible (first | refine zaj ?_ | refine zak ?_ | refine zag (by omega) ?_ | refine zah (by omega) ?_))))
    refine ⟨[], ?_⟩
    simp (disch := omega) [RF.pv, RF.cells]
  · have hge : Q.getD i 0 = 0 := by rw [List.getD_eq_getElem?_getD, List.getElem?_eq_none (by omega)]; rfl
    have c1 := zfg 0 (by omega)
    rw [hge, show frQ 0 = (RF.of 0).pv from rfl]
    rw [show frQ ((0 : Int) : Rat) = (RF.of 0).pv from rfl] at c1
    generalize RF.of 0 = y at *
    refine CallOk.of_wl Tryz.func158 rfl rfl rfl (Nat.le_of_ble_eq_true rfl) ?_
    (repeat (first | with_reducible (first | refine WL.seq ?_ | refine WL.skip ?_ | refine WL.label ?_ | refine WL.block ?_ | refine WL.scope ?_ | refine WL.nilS ?_ | refine WL.reS ?_ | refine WL.exS ?_ | refine WL.nilB ?_ | refine WL.nilT ?_ | refine WL.exit ?_ | refine WL.ret ?_ | refine WL.exT ?_ | refine WL.exB ?_ | refine WL.exN rfl ?_ | refine WL.reT ?_ | refine WL.reB ?_) | ((first | refine WL.reg rfl ?_ | refine WL.regT zai rfl ?_); (conv => { arg 3; simp [prep, prep1] }); (repeat (first | (refine zae ?_ ?_; (focus (simp; done)); (conv => { arg 4; simp (disch := omega) [h, RF.pv, RF.cells] }); (first | (first | refine zaa ?_ | (refine zac ?_; (conv => { arg 5; simp }))) | (refine zal true rfl rfl ⟨_, Tryz.func44, rfl, rfl⟩ ?_; (conv => { arg 6; simp (disch := omega) [h, RF.pv, RF.cells] }); refine zaf (c1) rfl ?_; (conv => { arg 5; simp (disch := omega) [h, RF.pv, RF.cells] })))) | (refine zab rfl ?_ ?_; (focus (simp; done))))); with_reducible refine zad ?_; (first | refine ⟨rfl, ?_⟩ | refine ⟨by simp [quietB], by simp [quietU], ?_⟩ | skip)) | (refine WL.cond ?_; (conv => { arg 1; simp (disch := omega) [h, RF.pv, RF.cells] }); with_reducible (first | refine zaj ?_ | refine zak ?_ | refine zag (by omega) ?_ | refine zah (by omega) ?_))))
    refine ⟨[], ?_⟩
    simp (disch := omega) [RF.pv, RF.cells]
def addL2 (a b : List Rat) : List Rat := (List.range (max a.length b.length)).map fun i => a.getD i 0 + b.getD i 0
theorem zeu (a b : List Rat) : (addL2 a b).length = max a.length b.length := by simp [addL2]
theorem addL2_take (a b : List Rat) (i : Nat) (h : i < max a.length b.length) : (addL2 a b).take (i + 1) = (addL2 a b).take i ++ [a.getD i 0 + b.getD i 0] := by
  rw [List.take_succ_eq_append_getElem (by rw [zeu]; omega)]
  simp [addL2]
theorem refPAdd (a b : List Rat) (la : a.length ≤ 100000) (lb : b.length ≤ 100000) (ha : ∀ i, szQ (a.getD i 0) ≤ 1073741824) (hb : ∀ i, szQ (b.getD i 0) ≤ 1073741824) :
    CallOk Tryz.prog 117 [rowQ a, rowQ b] [] (rowQ (trimQ (addL2 a b))) [] := by
  have hN1 : a.length ≤ max a.length b.length := Nat.le_max_left _ _
  have hN2 : b.length ≤ max a.length b.length := Nat.le_max_right _ _
  have hN3 : max a.length b.length ≤ 100000 := by omega
  have hor : ∀ i, i < max a.length b.length ↔ i < a.length ∨ i < b.length := fun i => by omega
  have hl := zeu a b
  have htk0 := addL2_take a b
  have cN := zgz (addL2 a b) (by omega)
  have era : rowQ a = .rd (rowC (a.map RF.of)) a.length := by simp [rowQ, row]
  have erb : rowQ b = .rd (rowC (b.map RF.of)) b.length := by simp [rowQ, row]
  have erc : rowQ (addL2 a b) = .rd (rowC ((addL2 a b).map RF.of)) (max a.length b.length) := by simp [rowQ, row, hl]
  have cAt := fun i hi => zqy a i hi
  have cBt := fun i hi => zqy b i hi
  rw [era] at cAt ⊢
  rw [erb] at cBt ⊢
  rw [erc] at cN
  have hlC := zap ((addL2 a b).map RF.of)
  rw [List.length_map, hl] at hlC
  generalize hNe : max a.length b.length = N at *
  have erd : rowQ (trimQ (addL2 a b)) = .rd (rowC ((trimQ (addL2 a b)).map RF.of)) (trimQ (addL2 a b)).length := by simp [rowQ, row]
  rw [erd] at cN ⊢
  refine CallOk.of_wl Tryz.func117 rfl rfl rfl (Nat.le_of_ble_eq_true rfl) ?_
  (repeat (first | with_reducible (first | refine WL.seq ?_ | refine WL.skip ?_ | refine WL.label ?_ | refine WL.block ?_ | refine WL.scope ?_ | refine WL.nilS ?_ | refine WL.reS ?_ | refine WL.exS ?_ | refine WL.nilB ?_ | refine WL.nilT ?_ | refine WL.exit ?_ | refine WL.ret ?_ | refine WL.exT ?_ | refine WL.exB ?_ | refine WL.exN rfl ?_ | refine WL.reT ?_ | refine WL.reB ?_) | ((first | refine WL.reg rfl ?_ | refine WL.regT zai rfl ?_); (conv => { arg 3; simp [prep, prep1] }); (repeat (first | (refine zae ?_ ?_; (focus (simp; done)); (conv => { arg 4; simp (disch := omega)  }); (first | (first | refine zaa ?_ | (refine zac ?_; (conv => { arg 5; simp }))))) | (refine zab rfl ?_ ?_; (focus (simp; done))))); with_reducible refine zad ?_; (first | refine ⟨rfl, ?_⟩ | refine ⟨by simp [quietB], by simp [quietU], ?_⟩ | skip)) | (refine WL.cond ?_; (conv => { arg 1; simp (disch := omega)  }); with_reducible (first | refine zaj ?_ | refine zak ?_ | refine zag (by omega) ?_ | refine zah (by omega) ?_))))
  refine WL.loop (fun m s => ∃ i : Nat, m = N - i ∧ i ≤ N ∧ s.frame 0 = .rd (rowC (a.map RF.of)) a.length ∧ s.frame 1 = .rd (rowC (b.map RF.of)) b.length ∧ s.frame 6 = .int .i64 i ∧
    ((i = 0 ∧ s.frame 5 = .nilS) ∨ ∃ G v, s.frame 5 = .sl ⟨28, G, 0⟩ v 0 i 3 ∧ s.store ⟨28, G, 0⟩ = some ⟨v, true, true, rowC (((addL2 a b).take i).map RF.of)⟩)) N ?_ ?_
  · exact ⟨0, by omega, by omega, by simp, by simp, by simp, .inl ⟨rfl, by simp⟩⟩
  rintro m ⟨f, σ, g⟩ ⟨i, rfl, hi, h0, h1, h6, h5⟩
  simp only at h0 h1 h6 h5
  by_cases hi' : i < N
  · have hdis := (hor i).1 hi'
    have c1 := cAt i (by omega)
    have c2 := cBt i (by omega)
    have c3 := zki (a.getD i 0) (b.getD i 0) (ha i) (hb i)
    have htk : rowC (((addL2 a b).take (i + 1)).map RF.of) = rowC (((addL2 a b).take i).map RF.of) ++ (RF.of (a.getD i 0 + b.getD i 0)).cells := by
      rw [htk0 i hi', List.map_append, zcm]; simp [rowC]
    have hlt := zap (((addL2 a b).take i).map RF.of)
    have hlt2 : (((addL2 a b).take i).map RF.of).length = i := by simp [hl]; omega
    rw [hlt2] at hlt
    replace c1 : CallOk _ _ _ _ (RF.of (a.getD i 0)).pv _ := c1
    replace c2 : CallOk _ _ _ _ (RF.of (b.getD i 0)).pv _ := c2
    replace c3 : CallOk _ _ [(RF.of (a.getD i 0)).pv, (RF.of (b.getD i 0)).pv] _ (RF.of (a.getD i 0 + b.getD i 0)).pv _ := c3
    generalize RF.of (a.getD i 0 + b.getD i 0) = z at *
    generalize RF.of (a.getD i 0) = x at *
    generalize RF.of (b.getD i 0) = y at *
    generalize hA1 : rowC (((addL2 a b).take (i + 1)).map RF.of) = A1 at *
    generalize hA0 : rowC (((addL2 a b).take i).map RF.of) = A at *
    have htk1 : A.take (i * 3) = A := List.take_of_length_le (by omega)
    clear hdis htk0 cAt cBt
    have hdis := (hor i).1 hi'
    by_cases hia : i < a.length
    · clear hor
      rcases h5 with ⟨h50, h5⟩ | ⟨G, v, h5, hst⟩
      · subst h50
        have hA00 : A = [] := by rw [← hA0]; simp [rowC]
        rw [hA00, List.nil_append] at htk
        (repeat (first | with_reducible (first | refine WL.seq ?_ | refine WL.skip ?_ | refine WL.label ?_ | refine WL.block ?_ | refine WL.scope ?_ | refine WL.nilS ?_ | refine WL.reS ?_ | refine WL.exS ?_ | refine WL.nilB ?_ | refine WL.nilT ?_ | refine WL.exit ?_ | refine WL.ret ?_ | refine WL.exT ?_ | refine WL.exB ?_ | refine WL.exN rfl ?_ | refine WL.reT ?_ | refine WL.reB ?_) | ((first | refine WL.reg rfl ?_ | refine WL.regT zai rfl ?_); (conv => { arg 3; simp [prep, prep1] }); (repeat (first | (refine zae ?_ ?_; (focus (simp; done)); (conv => { arg 4; simp (disch := omega) [h0, h1, h6, h5, hia, RF.pv, RF.cells] }); (first | (first | refine zaa ?_ | (refine zac ?_; (conv => { arg 5; simp }))) | ((first | refine zal true rfl rfl ⟨_, Tryz.func158, rfl, rfl⟩ ?_ | refine zal true rfl rfl ⟨_, Tryz.func93, rfl, rfl⟩ ?_); (conv => { arg 6; simp (disch := omega) [h0, h1, h6, h5, hia, RF.pv, RF.cells] }); (first | refine zaf (c1) rfl ?_ | refine zaf (c2) rfl ?_ | refine zaf (c3) rfl ?_); (conv => { arg 5; simp (disch := omega) [h0, h1, h6, h5, hia, RF.pv, RF.cells] })))) | (refine zab rfl ?_ ?_; (focus (simp; done))))); with_reducible refine zad ?_; (first | refine ⟨rfl, ?_⟩ | refine ⟨by simp [quietB], by simp [quietU], ?_⟩ | skip)) | (refine WL.cond ?_; (conv => { arg 1; simp (disch := omega) [h0, h1, h6, h5, hia, RF.pv, RF.cells] }); with_reducible (first | refine zaj ?_ | refine zak ?_ | refine zag (by omega) ?_ | refine zah (by omega) ?_))))
        exact ⟨N - 1, by omega, 1, rfl, by omega, by simp [h0], by simp [h1], by simp, .inr ⟨g 28, 0, by simp, by rw [hA1, htk]; simp [RF.cells]⟩⟩
      · (repeat (first | with_reducible (first | refine WL.seq ?_ | refine WL.skip ?_ | refine WL.label ?_ | refine WL.block ?_ | refine WL.scope ?_ | refine WL.nilS ?_ | refine WL.reS ?_ | refine WL.exS ?_ | refine WL.nilB ?_ | refine WL.nilT ?_ | refine WL.exit ?_ | refine WL.ret ?_ | refine WL.exT ?_ | refine WL.exB ?_ | refine WL.exN rfl ?_ | refine WL.reT ?_ | refine WL.reB ?_) | ((first | refine WL.reg rfl ?_ | refine WL.regT zai rfl ?_); (conv => { arg 3; simp [prep, prep1] }); (repeat (first | (refine zae ?_ ?_; (focus (simp; done)); (conv => { arg 4; simp (disch := omega) [h0, h1, h6, h5, hst, hia, hlt, htk1, RF.pv, RF.cells] }); (first | (first | refine zaa ?_ | (refine zac ?_; (conv => { arg 5; simp }))) | ((first | refine zal true rfl rfl ⟨_, Tryz.func158, rfl, rfl⟩ ?_ | refine zal true rfl rfl ⟨_, Tryz.func93, rfl, rfl⟩ ?_); (conv => { arg 6; simp (disch := omega) [h0, h1, h6, h5, hst, hia, hlt, htk1, RF.pv, RF.cells] }); (first | refine zaf (c1) rfl ?_ | refine zaf (c2) rfl ?_ | refine zaf (c3) rfl ?_); (conv => { arg 5; simp (disch := omega) [h0, h1, h6, h5, hst, hia, hlt, htk1, RF.pv, RF.cells] })))) | (refine zab rfl ?_ ?_; (focus (simp; done))))); with_reducible refine zad ?_; (first | refine ⟨rfl, ?_⟩ | refine ⟨by simp [quietB], by simp [quietU], ?_⟩ | skip)) | (refine WL.cond ?_; (conv => { arg 1; simp (disch := omega) [h0, h1, h6, h5, hst, hia, hlt, htk1, RF.pv, RF.cells] }); with_reducible (first | refine zaj ?_ | refine zak ?_ | refine zag (by omega) ?_ | refine zah (by omega) ?_))))
        exact ⟨N - (i + 1), by omega, i + 1, rfl, by omega, by simp [h0], by simp [h1], by simp, .inr ⟨G, v + 1, by simp, by rw [hA1, htk]; simp [RF.cells]⟩⟩
    · have hib : i < b.length := by omega
      clear hor
      rcases h5 with ⟨h50, h5⟩ | ⟨G, v, h5, hst⟩
      · subst h50
        have hA00 : A = [] := by rw [← hA0]; simp [rowC]
        rw [hA00, List.nil_append] at htk
        (repeat (first | with_reducible (first | refine WL.seq ?_ | refine WL.skip ?_ | refine WL.label ?_ | refine WL.block ?_ | refine WL.scope ?_ | refine WL.nilS ?_ | refine WL.reS ?_ | refine WL.exS ?_ | refine WL.nilB ?_ | refine WL.nilT ?_ | refine WL.exit ?_ | refine WL.ret ?_ | refine WL.exT ?_ | refine WL.exB ?_ | refine WL.exN rfl ?_ | refine WL.reT ?_ | refine WL.reB ?_) | ((first | refine WL.reg rfl ?_ | refine WL.regT zai rfl ?_); (conv => { arg 3; simp [prep, prep1] }); (repeat (first | (refine zae ?_ ?_; (focus (simp; done)); (conv => { arg 4; simp (disch := omega) [h0, h1, h6, h5, hia, hib, RF.pv, RF.cells] }); (first | (first | refine zaa ?_ | (refine zac ?_; (conv => { arg 5; simp }))) | ((first | refine zal true rfl rfl ⟨_, Tryz.func158, rfl, rfl⟩ ?_ | refine zal true rfl rfl ⟨_, Tryz.func93, rfl, rfl⟩ ?_); (conv => { arg 6; simp (disch := omega) [h0, h1, h6, h5, hia, hib, RF.pv, RF.cells] }); (first | refine zaf (c1) rfl ?_ | refine zaf (c2) rfl ?_ | refine zaf (c3) rfl ?_); (conv => { arg 5; simp (disch := omega) [h0, h1, h6, h5, hia, hib, RF.pv, RF.cells] })))) | (refine zab rfl ?_ ?_; (focus (simp; done))))); with_reducible refine zad ?_; (first | refine ⟨rfl, ?_⟩ | refine ⟨by simp [quietB], by simp [quietU], ?_⟩ | skip)) | (refine WL.cond ?_; (conv => { arg 1; simp (disch := omega) [h0, h1, h6, h5, hia, hib, RF.pv, RF.cells] }); with_reducible (first | refine zaj ?_ | refine zak ?_ | refine zag (by omega) ?_ | refine zah (by omega) ?_))))
        exact ⟨N - 1, by omega, 1, rfl, by omega, by simp [h0], by simp [h1], by simp, .inr ⟨g 28, 0, by simp, by rw [hA1, htk]; simp [RF.cells]⟩⟩
      · (repeat (first | with_reducible (first | refine WL.seq ?_ | refine WL.skip ?_ | refine WL.label ?_ | refine WL.block ?_ | refine WL.scope ?_ | refine WL.nilS ?_ | refine WL.reS ?_ | refine WL.exS ?_ | refine WL.nilB ?_ | refine WL.nilT ?_ | refine WL.exit ?_ | refine WL.ret ?_ | refine WL.exT ?_ | refine WL.exB ?_ | refine WL.exN rfl ?_ | refine WL.reT ?_ | refine WL.reB ?_) | ((first | refine WL.reg rfl ?_ | refine WL.regT zai rfl ?_); (conv => { arg 3; simp [prep, prep1] }); (repeat (first | (refine zae ?_ ?_; (focus (simp; done)); (conv => { arg 4; simp (disch := omega) [h0, h1, h6, h5, hst, hia, hib, hlt, htk1, RF.pv, RF.cells] }); (first | (first | refine zaa ?_ | (refine zac ?_; (conv => { arg 5; simp }))) | ((first | refine zal true rfl rfl ⟨_, Tryz.func158, rfl, rfl⟩ ?_ | refine zal true rfl rfl ⟨_, Tryz.func93, rfl, rfl⟩ ?_); (conv => { arg 6; simp (disch := omega) [h0, h1, h6, h5, hst, hia, hib, hlt, htk1, RF.pv, RF.cells] }); (first | refine zaf (c1) rfl ?_ | refine zaf (c2) rfl ?_ | refine zaf (c3) rfl ?_); (conv => { arg 5; simp (disch := omega) [h0, h1, h6, h5, hst, hia, hib, hlt, htk1, RF.pv, RF.cells] })))) | (refine zab rfl ?_ ?_; (focus (simp; done))))); with_reducible refine zad ?_; (first | refine ⟨rfl, ?_⟩ | refine ⟨by simp [quietB], by simp [quietU], ?_⟩ | skip)) | (refine WL.cond ?_; (conv => { arg 1; simp (disch := omega) [h0, h1, h6, h5, hst, hia, hib, hlt, htk1, RF.pv, RF.cells] }); with_reducible (first | refine zaj ?_ | refine zak ?_ | refine zag (by omega) ?_ | refine zah (by omega) ?_))))
        exact ⟨N - (i + 1), by omega, i + 1, rfl, by omega, by simp [h0], by simp [h1], by simp, .inr ⟨G, v + 1, by simp, by rw [hA1, htk]; simp [RF.cells]⟩⟩
  · have hiN : i = N := by omega
    subst hiN
    have hna : ¬ i < a.length := by omega
    have hnb : ¬ i < b.length := by omega
    rw [List.take_of_length_le (by omega)] at h5
    rcases h5 with ⟨h50, h5⟩ | ⟨G, v, h5, hst⟩
    · have hd : addL2 a b = [] := List.eq_nil_of_length_eq_zero (by omega)
      rw [hd] at cN ⊢
      rw [h50] at cN
      simp only [List.map_nil, rowC, List.flatMap_nil] at cN
      (repeat (first | with_reducible (first | refine WL.seq ?_ | refine WL.skip ?_ | refine WL.label ?_ | refine WL.block ?_ | refine WL.scope ?_ | refine WL.nilS ?_ | refine WL.reS ?_ | refine WL.exS ?_ | refine WL.nilB ?_ | refine WL.nilT ?_ | refine WL.exit ?_ | refine WL.ret ?_ | refine WL.exT ?_ | refine WL.exB ?_ | refine WL.exN rfl ?_ | refine WL.reT ?_ | refine WL.reB ?_) | ((first | refine WL.reg rfl ?_ | refine WL.regT zai rfl ?_); (conv => { arg 3; simp [prep, prep1] }); (repeat (first | (refine zae ?_ ?_; (focus (simp; done)); (conv => { arg 4; simp (disch := omega) [h0, h1, h6, h5, hna, hnb] }); (first | (first | refine zaa ?_ | (refine zac ?_; (conv => { arg 5; simp }))) | (refine zal true rfl rfl ⟨_, Tryz.func118, rfl, rfl⟩ ?_; (conv => { arg 6; simp (disch := omega) [h0, h1, h6, h5, hna, hnb] }); refine zaf (cN) rfl ?_; (conv => { arg 5; simp (disch := omega) [h0, h1, h6, h5, hna, hnb] })))) | (refine zab rfl ?_ ?_; (focus (simp; done))))); with_reducible refine zad ?_; (first | refine ⟨rfl, ?_⟩ | refine ⟨by simp [quietB], by simp [quietU], ?_⟩ | skip)) | (refine WL.cond ?_; (conv => { arg 1; simp (disch := omega) [h0, h1, h6, h5, hna, hnb] }); with_reducible (first | refine zaj ?_ | refine zak ?_ | refine zag (by omega) ?_ | refine zah (by omega) ?_))))
      refine ⟨[], ?_⟩
      simp (disch := omega) [rowC]
    · have htk1 : (rowC ((addL2 a b).map RF.of)).take (i * 3) = rowC ((addL2 a b).map RF.of) := List.take_of_length_le (by omega)
      generalize (trimQ (addL2 a b)).length = tl at *
      generalize rowC ((trimQ (addL2 a b)).map RF.of) = TT at *
      generalize rowC ((addL2 a b).map RF.of) = A at *
      (repeat (first | with_reducible (first | refine WL.seq ?_ | refine WL.skip ?_ | refine WL.label ?_ | refine WL.block ?_ | refine WL.scope ?_ | refine WL.nilS ?_ | refine WL.reS ?_ | refine WL.exS ?_ | refine WL.nilB ?_ | refine WL.nilT ?_ | refine WL.exit ?_ | refine WL.ret ?_ | refine WL.exT ?_ | refine WL.exB ?_ | refine WL.exN rfl ?_ | refine WL.reT ?_ | refine WL.reB ?_) | ((first | refine WL.reg rfl ?_ | refine WL.regT zai rfl ?_); (conv => { arg 3; simp [prep, prep1] }); (repeat (first | (refine zae ?_ ?_; (focus (simp; done)); (conv => { arg 4; simp (disch := omega) [h0, h1, h6, h5, hst, hna, hnb, hlC, htk1] }); (first | (first | refine zaa ?_ | (refine zac ?_; (conv => { arg 5; simp }))) | (refine zal true rfl rfl ⟨_, Tryz.func118, rfl, rfl⟩ ?_; (conv => { arg 6; simp (disch := omega) [h0, h1, h6, h5, hst, hna, hnb, hlC, htk1] }); refine zaf (cN) rfl ?_; (conv => { arg 5; simp (disch := omega) [h0, h1, h6, h5, hst, hna, hnb, hlC, htk1] })))) | (refine zab rfl ?_ ?_; (focus (simp; done))))); with_reducible refine zad ?_; (first | refine ⟨rfl, ?_⟩ | refine ⟨by simp [quietB], by simp [quietU], ?_⟩ | skip)) | (refine WL.cond ?_; (conv => { arg 1; simp (disch := omega) [h0, h1, h6, h5, hst, hna, hnb, hlC, htk1] }); with_reducible (first | refine zaj ?_ | refine zak ?_ | refine zag (by omega) ?_ | refine zah (by omega) ?_))))
      refine ⟨[], ?_⟩
      simp (disch := omega) 
def pw (x : Rat) : Nat → Rat
  | 0 => 1
  | i + 1 => pw x i * x
theorem evalQ_snoc (l : List Rat) (a x : Rat) : evalQ (l ++ [a]) x = evalQ l x + a * pw x l.length := by
  induction l with
  | nil => simp [evalQ, pw]
  | cons y l ih =>
    have e1 : evalQ (y :: l ++ [a]) x = evalQ (l ++ [a]) x * x + y := rfl
    have e2 : evalQ (y :: l) x = evalQ l x * x + y := rfl
    rw [e1, e2, ih, List.length_cons]
    show _ = _ + a * (pw x l.length * x)
    grind
theorem zqs (x : Rat) (K : Nat) (h : szQ x ≤ K) : ∀ i, szQ (pw x i) ≤ i * K + 1
  | 0 => by have := zjx; simpa [pw] using this
  | i + 1 => by
    have ih := zqs x K h i
    have h1 := zcz (pw x i) x
    show szQ (pw x i * x) ≤ _
    rw [Nat.succ_mul]; omega
theorem refPEval (Q : List Rat) (x : Rat) (K : Nat) (hK : 1 ≤ K) (hx : szQ x ≤ K) (hl : ∀ y ∈ Q, szQ y ≤ K) (hs : (Q.length + 1) * (2 * K + 1) ≤ 536870912) :
    CallOk Tryz.prog 76 [rowQ Q, frQ x] [] (frQ (evalQ Q x)) [] := by
  have hKs : K ≤ 536870912 := by
    have : 1 * (2 * K + 1) ≤ (Q.length + 1) * (2 * K + 1) := Nat.mul_le_mul_right _ (by omega)
    omega
  have hll : Q.length ≤ 536870912 := by
    have : (Q.length + 1) * 1 ≤ (Q.length + 1) * (2 * K + 1) := Nat.mul_le_mul_left _ (by omega)
    omega
  have c0 := zfg 0 (by omega)
  have c1 := zfg 1 (by omega)
  rw [show frQ ((0 : Int) : Rat) = (RF.of 0).pv from rfl] at c0
  rw [show frQ ((1 : Int) : Rat) = (RF.of 1).pv from rfl] at c1
  have hlen := zap (Q.map RF.of)
  rw [List.length_map] at hlen
  have era : rowQ Q = .rd (rowC (Q.map RF.of)) Q.length := by simp [rowQ, row]
  rw [era, show frQ x = (RF.of x).pv from rfl, show frQ (evalQ Q x) = (RF.of (evalQ Q x)).pv from rfl]
  have hp0 : RF.of (pw x 0) = RF.of 1 := rfl
  have he0 : RF.of (evalQ (Q.take 0) x) = RF.of 0 := rfl
  refine CallOk.of_wl Tryz.func76 rfl rfl rfl (Nat.le_of_ble_eq_true rfl) ?_
  (repeat (first | with_reducible (first | refine WL.seq ?_ | refine WL.skip ?_ | refine WL.label ?_ | refine WL.block ?_ | refine WL.scope ?_ | refine WL.nilS ?_ | refine WL.reS ?_ | refine WL.exS ?_ | refine WL.nilB ?_ | refine WL.nilT ?_ | refine WL.exit ?_ | refine WL.ret ?_ | refine WL.exT ?_ | refine WL.exB ?_ | refine WL.exN rfl ?_ | refine WL.reT ?_ | refine WL.reB ?_) | ((first | refine WL.reg rfl ?_ | refine WL.regT zai rfl ?_); (conv => { arg 3; simp [prep, prep1] }); (repeat (first | (refine zae ?_ ?_; (focus (simp; done)); (conv => { arg 4; simp (disch := omega) [RF.pv, RF.cells] }); (first | (first | refine zaa ?_ | (refine zac ?_; (conv => { arg 5; simp }))) | (refine zal true rfl rfl ⟨_, Tryz.func44, rfl, rfl⟩ ?_; (conv => { arg 6; simp (disch := omega) [RF.pv, RF.cells] }); (first | refine zaf (c0) rfl ?_ | refine zaf (c1) rfl ?_); (conv => { arg 5; simp (disch := omega) [RF.pv, RF.cells] })))) | (refine zab rfl ?_ ?_; (focus (simp; done))))); with_reducible refine zad ?_; (first | refine ⟨rfl, ?_⟩ | refine ⟨by simp [quietB], by simp [quietU], ?_⟩ | skip)) | (refine WL.cond ?_; (conv => { arg 1; simp (disch := omega) [RF.pv, RF.cells] }); with_reducible (first | refine zaj ?_ | refine zak ?_ | refine zag (by omega) ?_ | refine zah (by omega) ?_))))
  refine WL.loop (fun m s => ∃ i : Nat, m = Q.length - i ∧ i ≤ Q.length ∧ s.frame 0 = .rd (rowC (Q.map RF.of)) Q.length ∧ s.frame 3 = .pt ⟨3, 0, 0⟩ 0 0 ∧ s.frame 4 = .pt ⟨4, 0, 0⟩ 0 0 ∧ s.frame 5 = .pt ⟨5, 0, 0⟩ 0 0 ∧ s.frame 6 = .pt ⟨6, 0, 0⟩ 0 0 ∧ s.frame 7 = .int .i64 i ∧
      s.store ⟨3, 0, 0⟩ = some ⟨0, true, false, (RF.of x).cells⟩ ∧ s.store ⟨4, 0, 0⟩ = some ⟨0, true, false, [.bool false, .nilS, .nilS]⟩ ∧ s.store ⟨5, 0, 0⟩ = some ⟨0, true, false, (RF.of (evalQ (Q.take i) x)).cells⟩ ∧ s.store ⟨6, 0, 0⟩ = some ⟨0, true, false, (RF.of (pw x i)).cells⟩) Q.length ?_ ?_
  · exact ⟨0, by omega, by omega, by simp, by simp, by simp, by simp, by simp, by simp, by simp [RF.cells], by simp, by rw [he0]; simp [RF.cells], by rw [hp0]; simp [RF.cells]⟩
  clear c0 c1 hp0 he0
  rintro m ⟨f, σ, g⟩ ⟨i, rfl, hi, h0, h3, h4, h5, h6, h7, q3, q4, q5, q6⟩
  simp only at h0 h3 h4 h5 h6 h7 q3 q4 q5 q6
  by_cases hi' : i < Q.length
  · have rx := zdo hi'
    have h3l : 3 ≤ (rowC (Q.map RF.of)).length - i * 3 := by omega
    have htl : (Q.take i).length = i := by simp; omega
    have hev : evalQ (Q.take (i + 1)) x = evalQ (Q.take i) x + Q[i]'hi' * pw x i := by
      rw [List.take_succ_eq_append_getElem hi', evalQ_snoc, htl]
    have hz1 := zjz K x hx (Q.take i) (fun q h => hl q (List.mem_of_mem_take h))
    rw [htl] at hz1
    have hz2 := zqs x K hx i
    have hz3 := hl _ (List.getElem_mem hi')
    have hm1 : i * (2 * K + 1) ≤ Q.length * (2 * K + 1) := Nat.mul_le_mul_right _ hi
    have hm2 : i * K ≤ i * (2 * K + 1) := Nat.mul_le_mul_left _ (by omega)
    rw [Nat.succ_mul] at hs
    have c2 := zkh (Q[i]'hi') (pw x i) (by omega) (by omega)
    have hz4 := zcz (Q[i]'hi') (pw x i)
    have c3 := zki (evalQ (Q.take i) x) (Q[i]'hi' * pw x i) (by omega) (by omega)
    have c4 := zkh (pw x i) x (by omega) (by omega)
    rw [← hev] at c3
    rw [show pw x i * x = pw x (i + 1) from rfl] at c4
    replace c2 : CallOk _ _ [(RF.of (Q[i]'hi')).pv, (RF.of (pw x i)).pv] _ (RF.of (Q[i]'hi' * pw x i)).pv _ := c2
    replace c3 : CallOk _ _ [(RF.of (evalQ (Q.take i) x)).pv, (RF.of (Q[i]'hi' * pw x i)).pv] _ (RF.of (evalQ (Q.take (i + 1)) x)).pv _ := c3
    replace c4 : CallOk _ _ [(RF.of (pw x i)).pv, (RF.of x).pv] _ (RF.of (pw x (i + 1))).pv _ := c4
    clear hz1 hz2 hz3 hz4 hm1 hm2 hev
    generalize RF.of (Q[i]'hi' * pw x i) = r1 at *
    generalize hr2 : RF.of (evalQ (Q.take (i + 1)) x) = r2 at *
    generalize hr3 : RF.of (pw x (i + 1)) = r3 at *
    generalize RF.of (evalQ (Q.take i) x) = r4 at *
    generalize RF.of (pw x i) = r5 at *
    generalize RF.of (Q[i]'hi') = y at *
    generalize hxe : RF.of x = xx at *
    (repeat (first | with_reducible (first | refine WL.seq ?_ | refine WL.skip ?_ | refine WL.label ?_ | refine WL.block ?_ | refine WL.scope ?_ | refine WL.nilS ?_ | refine WL.reS ?_ | refine WL.exS ?_ | refine WL.nilB ?_ | refine WL.nilT ?_ | refine WL.exit ?_ | refine WL.ret ?_ | refine WL.exT ?_ | refine WL.exB ?_ | refine WL.exN rfl ?_ | refine WL.reT ?_ | refine WL.reB ?_) | ((first | refine WL.reg rfl ?_ | refine WL.regT zai rfl ?_); (conv => { arg 3; simp [prep, prep1] }); (repeat (first | (refine zae ?_ ?_; (focus (simp; done)); (conv => { arg 4; simp (disch := omega) [h0, h3, h5, h6, h7, q3, q5, q6, hi', rx, h3l, hlen, RF.pv, RF.cells] }); (first | (first | refine zaa ?_ | (refine zac ?_; (conv => { arg 5; simp }))) | ((first | refine zal true rfl rfl ⟨_, Tryz.func92, rfl, rfl⟩ ?_ | refine zal true rfl rfl ⟨_, Tryz.func93, rfl, rfl⟩ ?_); (conv => { arg 6; simp (disch := omega) [h0, h3, h5, h6, h7, q3, q5, q6, hi', rx, h3l, hlen, RF.pv, RF.cells] }); (first | refine zaf (c2) rfl ?_ | refine zaf (c3) rfl ?_ | refine zaf (c4) rfl ?_); (conv => { arg 5; simp (disch := omega) [h0, h3, h5, h6, h7, q3, q5, q6, hi', rx, h3l, hlen, RF.pv, RF.cells] })))) | (refine zab rfl ?_ ?_; (focus (simp; done))))); with_reducible refine zad ?_; (first | refine ⟨rfl, ?_⟩ | refine ⟨by simp [quietB], by simp [quietU], ?_⟩ | skip)) | (refine WL.cond ?_; (conv => { arg 1; simp (disch := omega) [h0, h3, h5, h6, h7, q3, q5, q6, hi', rx, h3l, hlen, RF.pv, RF.cells] }); with_reducible (first | refine zaj ?_ | refine zak ?_ | refine zag (by omega) ?_ | refine zah (by omega) ?_))))
    exact ⟨Q.length - (i + 1), by omega, i + 1, rfl, by omega, by simp [h0], by simp [h3], by simp [h4], by simp [h5], by simp [h6], by simp, by simp [q3, RF.cells], by simp [q4], by rw [hr2]; simp [RF.cells], by rw [hr3]; simp [RF.cells]⟩
  · have hia : i = Q.length := by omega
    subst hia
    rw [List.take_length] at q5
    generalize RF.of (evalQ Q x) = r at *
    (repeat (first | with_reducible (first | refine WL.seq ?_ | refine WL.skip ?_ | refine WL.label ?_ | refine WL.block ?_ | refine WL.scope ?_ | refine WL.nilS ?_ | refine WL.reS ?_ | refine WL.exS ?_ | refine WL.nilB ?_ | refine WL.nilT ?_ | refine WL.exit ?_ | refine WL.ret ?_ | refine WL.exT ?_ | refine WL.exB ?_ | refine WL.exN rfl ?_ | refine WL.reT ?_ | refine WL.reB ?_) | ((first | refine WL.reg rfl ?_ | refine WL.regT zai rfl ?_); (conv => { arg 3; simp [prep, prep1] }); (repeat (first | (refine zae ?_ ?_; (focus (simp; done)); (conv => { arg 4; simp (disch := omega) [h0, h4, h5, h7, q4, q5, RF.cells] }); (first | (first | refine zaa ?_ | (refine zac ?_; (conv => { arg 5; simp }))))) | (refine zab rfl ?_ ?_; (focus (simp; done))))); with_reducible refine zad ?_; (first | refine ⟨rfl, ?_⟩ | refine ⟨by simp [quietB], by simp [quietU], ?_⟩ | skip)) | (refine WL.cond ?_; (conv => { arg 1; simp (disch := omega) [h0, h4, h5, h7, q4, q5, RF.cells] }); with_reducible (first | refine zaj ?_ | refine zak ?_ | refine zag (by omega) ?_ | refine zah (by omega) ?_))))
    refine ⟨[], ?_⟩
    simp (disch := omega) [h4, RF.pv, RF.cells]
theorem refPDiff (Q : List Rat) (hq : ∀ y ∈ Q, szQ y ≤ 536870912) (hll : Q.length ≤ 1000000) :
    CallOk Tryz.prog 75 [rowQ Q] [] (rowQ (trimQ (diffL Q))) [] := by
  have hlen := zap (Q.map RF.of)
  rw [List.length_map] at hlen
  have hdl := zik Q
  have cN := zgz (diffL Q) (by omega)
  have era : rowQ Q = .rd (rowC (Q.map RF.of)) Q.length := by simp [rowQ, row]
  have erc : rowQ (diffL Q) = .rd (rowC ((diffL Q).map RF.of)) (Q.length - 1) := by simp [rowQ, row, hdl]
  have erd : rowQ (trimQ (diffL Q)) = .rd (rowC ((trimQ (diffL Q)).map RF.of)) (trimQ (diffL Q)).length := by simp [rowQ, row]
  rw [era, erd]
  rw [erc, erd] at cN
  have hlD := zap ((diffL Q).map RF.of)
  rw [List.length_map, hdl] at hlD
  refine CallOk.of_wl Tryz.func75 rfl rfl rfl (Nat.le_of_ble_eq_true rfl) ?_
  (repeat (first | with_reducible (first | refine WL.seq ?_ | refine WL.skip ?_ | refine WL.label ?_ | refine WL.block ?_ | refine WL.scope ?_ | refine WL.nilS ?_ | refine WL.reS ?_ | refine WL.exS ?_ | refine WL.nilB ?_ | refine WL.nilT ?_ | refine WL.exit ?_ | refine WL.ret ?_ | refine WL.exT ?_ | refine WL.exB ?_ | refine WL.exN rfl ?_ | refine WL.reT ?_ | refine WL.reB ?_) | ((first | refine WL.reg rfl ?_ | refine WL.regT zai rfl ?_); (conv => { arg 3; simp [prep, prep1] }); (repeat (first | (refine zae ?_ ?_; (focus (simp; done)); (conv => { arg 4; simp (disch := omega)  }); (first | (first | refine zaa ?_ | (refine zac ?_; (conv => { arg 5; simp }))))) | (refine zab rfl ?_ ?_; (focus (simp; done))))); with_reducible refine zad ?_; (first | refine ⟨rfl, ?_⟩ | refine ⟨by simp [quietB], by simp [quietU], ?_⟩ | skip)) | (refine WL.cond ?_; (conv => { arg 1; simp (disch := omega)  }); with_reducible (first | refine zaj ?_ | refine zak ?_ | refine zag (by omega) ?_ | refine zah (by omega) ?_))))
  refine WL.loop (fun m s => ∃ i : Nat, m = Q.length - 1 - i ∧ i ≤ Q.length - 1 ∧ s.frame 0 = .rd (rowC (Q.map RF.of)) Q.length ∧ s.frame 4 = .int .i64 ((i : Int) + 1) ∧
    ((i = 0 ∧ s.frame 3 = .nilS) ∨ ∃ G v, s.frame 3 = .sl ⟨20, G, 0⟩ v 0 i 3 ∧ s.store ⟨20, G, 0⟩ = some ⟨v, true, true, rowC (((diffL Q).take i).map RF.of)⟩)) (Q.length - 1) ?_ ?_
  · exact ⟨0, by omega, by omega, by simp, by simp, .inl ⟨rfl, by simp⟩⟩
  rintro m ⟨f, σ, g⟩ ⟨i, rfl, hi, h0, h4, h3⟩
  simp only at h0 h4 h3
  by_cases hi' : i + 1 < Q.length
  · have rx := zdo hi'
    have hiI : (i : Int) + 1 < Q.length := by omega
    have hiN : ((i : Int) + 1).toNat = i + 1 := by omega
    have h3l : 3 ≤ (rowC (Q.map RF.of)).length - (i + 1) * 3 := by omega
    have c1 := zfg ((i : Int) + 1) (by omega)
    have zi := zda ((i : Int) + 1) (by omega)
    have c2 := zkh (((i : Int) + 1 : Int) : Rat) (Q[i + 1]'hi') (by omega) (Nat.le_trans (hq _ (List.getElem_mem hi')) (by decide))
    have htk := diffL_take Q i (by omega)
    have hgd : Q.getD (i + 1) 0 = Q[i + 1]'hi' := by
      rw [List.getD_eq_getElem?_getD, List.getElem?_eq_getElem (by omega)]; rfl
    rw [hgd, show (((i + 1 : Nat) : Int) : Rat) = (((i : Int) + 1 : Int) : Rat) from rfl] at htk
    have htk2 : rowC (((diffL Q).take (i + 1)).map RF.of) = rowC (((diffL Q).take i).map RF.of) ++ (RF.of ((((i : Int) + 1 : Int) : Rat) * Q[i + 1]'hi')).cells := by
      rw [htk, List.map_append, zcm]; simp [rowC]
    have hlt := zap (((diffL Q).take i).map RF.of)
    have hlt2 : (((diffL Q).take i).map RF.of).length = i := by simp [hdl]; omega
    rw [hlt2] at hlt
    clear htk hgd zi
    replace c1 : CallOk _ _ _ _ (RF.of (((i : Int) + 1 : Int) : Rat)).pv _ := c1
    replace c2 : CallOk _ _ [(RF.of (((i : Int) + 1 : Int) : Rat)).pv, (RF.of (Q[i + 1]'hi')).pv] _ (RF.of ((((i : Int) + 1 : Int) : Rat) * Q[i + 1]'hi')).pv _ := c2
    generalize RF.of ((((i : Int) + 1 : Int) : Rat) * Q[i + 1]'hi') = w at *
    generalize RF.of (((i : Int) + 1 : Int) : Rat) = iq at *
    generalize RF.of (Q[i + 1]'hi') = x at *
    generalize hA1 : rowC (((diffL Q).take (i + 1)).map RF.of) = A1 at *
    generalize hA0 : rowC (((diffL Q).take i).map RF.of) = A at *
    have htk1 : A.take (i * 3) = A := List.take_of_length_le (by omega)
    rcases h3 with ⟨h30, h3⟩ | ⟨G, v, h3, hst⟩
    · subst h30
      have hA00 : A = [] := by rw [← hA0]; simp [rowC]
      rw [hA00, List.nil_append] at htk2
      (repeat (first | with_reducible (first | refine WL.seq ?_ | refine WL.skip ?_ | refine WL.label ?_ | refine WL.block ?_ | refine WL.scope ?_ | refine WL.nilS ?_ | refine WL.reS ?_ | refine WL.exS ?_ | refine WL.nilB ?_ | refine WL.nilT ?_ | refine WL.exit ?_ | refine WL.ret ?_ | refine WL.exT ?_ | refine WL.exB ?_ | refine WL.exN rfl ?_ | refine WL.reT ?_ | refine WL.reB ?_) | ((first | refine WL.reg rfl ?_ | refine WL.regT zai rfl ?_); (conv => { arg 3; simp [prep, prep1] }); (repeat (first | (refine zae ?_ ?_; (focus (simp; done)); (conv => { arg 4; simp (disch := omega) [h4, h0, hi', hiI, hiN, hlen, rx, h3l, RF.pv, RF.cells, h3] }); (first | (first | refine zaa ?_ | (refine zac ?_; (conv => { arg 5; simp }))) | ((first | refine zal true rfl rfl ⟨_, Tryz.func44, rfl, rfl⟩ ?_ | refine zal true rfl rfl ⟨_, Tryz.func92, rfl, rfl⟩ ?_); (conv => { arg 6; simp (disch := omega) [h4, h0, hi', hiI, hiN, hlen, rx, h3l, RF.pv, RF.cells, h3] }); (first | refine zaf (c1) rfl ?_ | refine zaf (c2) rfl ?_); (conv => { arg 5; simp (disch := omega) [h4, h0, hi', hiI, hiN, hlen, rx, h3l, RF.pv, RF.cells, h3] })))) | (refine zab rfl ?_ ?_; (focus (simp; done))))); with_reducible refine zad ?_; (first | refine ⟨rfl, ?_⟩ | refine ⟨by simp [quietB], by simp [quietU], ?_⟩ | skip)) | (refine WL.cond ?_; (conv => { arg 1; simp (disch := omega) [h4, h0, hi', hiI, hiN, hlen, rx, h3l, RF.pv, RF.cells, h3] }); with_reducible (first | refine zaj ?_ | refine zak ?_ | refine zag (by omega) ?_ | refine zah (by omega) ?_))))
      exact ⟨Q.length - 1 - 1, by omega, 1, rfl, by omega, by simp [h0], by simp, .inr ⟨g 20, 0, by simp, by rw [hA1, htk2]; simp [RF.cells]⟩⟩
    · (repeat (first | with_reducible (first | refine WL.seq ?_ | refine WL.skip ?_ | refine WL.label ?_ | refine WL.block ?_ | refine WL.scope ?_ | refine WL.nilS ?_ | refine WL.reS ?_ | refine WL.exS ?_ | refine WL.nilB ?_ | refine WL.nilT ?_ | refine WL.exit ?_ | refine WL.ret ?_ | refine WL.exT ?_ | refine WL.exB ?_ | refine WL.exN rfl ?_ | refine WL.reT ?_ | refine WL.reB ?_) | ((first | refine WL.reg rfl ?_ | refine WL.regT zai rfl ?_); (conv => { arg 3; simp [prep, prep1] }); (repeat (first | (refine zae ?_ ?_; (focus (simp; done)); (conv => { arg 4; simp (disch := omega) [h4, h0, hi', hiI, hiN, hlen, rx, h3l, RF.pv, RF.cells, h3, hst, hlt, htk1] }); (first | (first | refine zaa ?_ | (refine zac ?_; (conv => { arg 5; simp }))) | ((first | refine zal true rfl rfl ⟨_, Tryz.func44, rfl, rfl⟩ ?_ | refine zal true rfl rfl ⟨_, Tryz.func92, rfl, rfl⟩ ?_); (conv => { arg 6; simp (disch := omega) [h4, h0, hi', hiI, hiN, hlen, rx, h3l, RF.pv, RF.cells, h3, hst, hlt, htk1] }); (first | refine zaf (c1) rfl ?_ | refine zaf (c2) rfl ?_); (conv => { arg 5; simp (disch := omega) [h4, h0, hi', hiI, hiN, hlen, rx, h3l, RF.pv, RF.cells, h3, hst, hlt, htk1] })))) | (refine zab rfl ?_ ?_; (focus (simp; done))))); with_reducible refine zad ?_; (first | refine ⟨rfl, ?_⟩ | refine ⟨by simp [quietB], by simp [quietU], ?_⟩ | skip)) | (refine WL.cond ?_; (conv => { arg 1; simp (disch := omega) [h4, h0, hi', hiI, hiN, hlen, rx, h3l, RF.pv, RF.cells, h3, hst, hlt, htk1] }); with_reducible (first | refine zaj ?_ | refine zak ?_ | refine zag (by omega) ?_ | refine zah (by omega) ?_))))
      exact ⟨Q.length - 1 - (i + 1), by omega, i + 1, rfl, by omega, by simp [h0], by simp, .inr ⟨G, v + 1, by simp, by rw [hA1, htk2]; simp [RF.cells]⟩⟩
  · have hia : i = Q.length - 1 := by omega
    subst hia
    have hiI : ¬ (((Q.length - 1 : Nat) : Int) + 1 < Q.length) := by omega
    rcases h3 with ⟨h0', h3⟩ | ⟨G, v, h3, hst⟩
    · have hd : diffL Q = [] := List.eq_nil_of_length_eq_zero (by omega)
      rw [hd] at cN ⊢
      rw [h0'] at cN
      have h4' : f 4 = .int .i64 1 := by rw [h4, h0']; rfl
      have hle : ¬ (1 : Int) < Q.length := by omega
      simp only [List.map_nil, rowC, List.flatMap_nil] at cN
      (repeat (first | with_reducible (first | refine WL.seq ?_ | refine WL.skip ?_ | refine WL.label ?_ | refine WL.block ?_ | refine WL.scope ?_ | refine WL.nilS ?_ | refine WL.reS ?_ | refine WL.exS ?_ | refine WL.nilB ?_ | refine WL.nilT ?_ | refine WL.exit ?_ | refine WL.ret ?_ | refine WL.exT ?_ | refine WL.exB ?_ | refine WL.exN rfl ?_ | refine WL.reT ?_ | refine WL.reB ?_) | ((first | refine WL.reg rfl ?_ | refine WL.regT zai rfl ?_); (conv => { arg 3; simp [prep, prep1] }); (repeat (first | (refine zae ?_ ?_; (focus (simp; done)); (conv => { arg 4; simp (disch := omega) [h4', h0, h3, hle] }); (first | (first | refine zaa ?_ | (refine zac ?_; (conv => { arg 5; simp }))) | (refine zal true rfl rfl ⟨_, Tryz.func118, rfl, rfl⟩ ?_; (conv => { arg 6; simp (disch := omega) [h4', h0, h3, hle] }); refine zaf (cN) rfl ?_; (conv => { arg 5; simp (disch := omega) [h4', h0, h3, hle] })))) | (refine zab rfl ?_ ?_; (focus (simp; done))))); with_reducible refine zad ?_; (first | refine ⟨rfl, ?_⟩ | refine ⟨by simp [quietB], by simp [quietU], ?_⟩ | skip)) | (refine WL.cond ?_; (conv => { arg 1; simp (disch := omega) [h4', h0, h3, hle] }); with_reducible (first | refine zaj ?_ | refine zak ?_ | refine zag (by omega) ?_ | refine zah (by omega) ?_))))
      refine ⟨[], ?_⟩
      simp (disch := omega) [rowC]
    · rw [List.take_of_length_le (by omega)] at hst
      have htk1 : (rowC ((diffL Q).map RF.of)).take ((Q.length - 1) * 3) = rowC ((diffL Q).map RF.of) := List.take_of_length_le (by omega)
      generalize (trimQ (diffL Q)).length = tl at *
      generalize rowC ((trimQ (diffL Q)).map RF.of) = TT at *
      generalize rowC ((diffL Q).map RF.of) = A at *
      (repeat (first | with_reducible (first | refine WL.seq ?_ | refine WL.skip ?_ | refine WL.label ?_ | refine WL.block ?_ | refine WL.scope ?_ | refine WL.nilS ?_ | refine WL.reS ?_ | refine WL.exS ?_ | refine WL.nilB ?_ | refine WL.nilT ?_ | refine WL.exit ?_ | refine WL.ret ?_ | refine WL.exT ?_ | refine WL.exB ?_ | refine WL.exN rfl ?_ | refine WL.reT ?_ | refine WL.reB ?_) | ((first | refine WL.reg rfl ?_ | refine WL.regT zai rfl ?_); (conv => { arg 3; simp [prep, prep1] }); (repeat (first | (refine zae ?_ ?_; (focus (simp; done)); (conv => { arg 4; simp (disch := omega) [h4, h0, h3, hst, hiI, htk1] }); (first | (first | refine zaa ?_ | (refine zac ?_; (conv => { arg 5; simp }))) | (refine zal true rfl rfl ⟨_, Tryz.func118, rfl, rfl⟩ ?_; (conv => { arg 6; simp (disch := omega) [h4, h0, h3, hst, hiI, htk1] }); refine zaf (cN) rfl ?_; (conv => { arg 5; simp (disch := omega) [h4, h0, h3, hst, hiI, htk1] })))) | (refine zab rfl ?_ ?_; (focus (simp; done))))); with_reducible refine zad ?_; (first | refine ⟨rfl, ?_⟩ | refine ⟨by simp [quietB], by simp [quietU], ?_⟩ | skip)) | (refine WL.cond ?_; (conv => { arg 1; simp (disch := omega) [h4, h0, h3, hst, hiI, htk1] }); with_reducible (first | refine zaj ?_ | refine zak ?_ | refine zag (by omega) ?_ | refine zah (by omega) ?_))))
      refine ⟨[], ?_⟩
      simp (disch := omega) 
def mulS (a b : List Rat) (n : Nat) : Nat → Rat
  | 0 => 0
  | i + 1 => if n - i < b.length then mulS a b n i + a.getD i 0 * b.getD (n - i) 0 else mulS a b n i
def mulL (a b : List Rat) : List Rat := (List.range (a.length + b.length)).map fun n => mulS a b n (min (n + 1) a.length)
theorem zhc (a b : List Rat) : (mulL a b).length = a.length + b.length := by simp [mulL]
theorem mulL_take (a b : List Rat) (n : Nat) (h : n < a.length + b.length) : (mulL a b).take (n + 1) = (mulL a b).take n ++ [mulS a b n (min (n + 1) a.length)] := by
  rw [List.take_succ_eq_append_getElem (by rw [zhc]; omega)]
  simp [mulL]
theorem zjy (a b : List Rat) (K : Nat) (ha : ∀ i, szQ (a.getD i 0) ≤ K) (hb : ∀ i, szQ (b.getD i 0) ≤ K) (n : Nat) : ∀ i, szQ (mulS a b n i) ≤ i * (2 * K + 1) + 1
  | 0 => by have := zev; simpa [mulS] using this
  | i + 1 => by
    have ih := zjy a b K ha hb n i
    have h1 := zcz (a.getD i 0) (b.getD (n - i) 0)
    have h2 := zgi (mulS a b n i) (a.getD i 0 * b.getD (n - i) 0)
    have h3 := ha i
    have h4 := hb (n - i)
    unfold mulS
    rw [Nat.succ_mul]
    split <;> omega
set_option maxHeartbeats 2000000 in
theorem refPMul (a b : List Rat) (K : Nat) (la : a.length ≤ 1000) (lb : b.length ≤ 1000) (hK : K ≤ 1000) (ha : ∀ i, szQ (a.getD i 0) ≤ K) (hb : ∀ i, szQ (b.getD i 0) ≤ K) :
    CallOk Tryz.prog 116 [rowQ a, rowQ b] [] (rowQ (trimQ (mulL a b))) [] := by
  have hz := zjy a b K ha hb
  have hl := zhc a b
  have htk0 := mulL_take a b
  have cN := zgz (mulL a b) (by omega)
  have c0 := zfg 0 (by omega)
  rw [show frQ ((0 : Int) : Rat) = (RF.of 0).pv from rfl] at c0
  have hla := zap (a.map RF.of)
  have hlb := zap (b.map RF.of)
  have hlC := zap ((mulL a b).map RF.of)
  rw [List.length_map] at hla hlb hlC
  rw [hl] at hlC
  have era : rowQ a = .rd (rowC (a.map RF.of)) a.length := by simp [rowQ, row]
  have erb : rowQ b = .rd (rowC (b.map RF.of)) b.length := by simp [rowQ, row]
  have erc : rowQ (mulL a b) = .rd (rowC ((mulL a b).map RF.of)) (a.length + b.length) := by simp [rowQ, row, hl]
  have erd : rowQ (trimQ (mulL a b)) = .rd (rowC ((trimQ (mulL a b)).map RF.of)) (trimQ (mulL a b)).length := by simp [rowQ, row]
  rw [era, erb, erd]
  rw [erc, erd] at cN
  have hlab : ((a.length : Int) + b.length) = ((a.length + b.length : Nat) : Int) := by omega
  generalize hNe : a.length + b.length = N at *
  refine CallOk.of_wl Tryz.func116 rfl rfl rfl (Nat.le_of_ble_eq_true rfl) ?_
  (repeat (first | with_reducible (first | refine WL.seq ?_ | refine WL.skip ?_ | refine WL.label ?_ | refine WL.block ?_ | refine WL.scope ?_ | refine WL.nilS ?_ | refine WL.reS ?_ | refine WL.exS ?_ | refine WL.nilB ?_ | refine WL.nilT ?_ | refine WL.exit ?_ | refine WL.ret ?_ | refine WL.exT ?_ | refine WL.exB ?_ | refine WL.exN rfl ?_ | refine WL.reT ?_ | refine WL.reB ?_) | ((first | refine WL.reg rfl ?_ | refine WL.regT zai rfl ?_); (conv => { arg 3; simp [prep, prep1] }); (repeat (first | (refine zae ?_ ?_; (focus (simp; done)); (conv => { arg 4; simp (disch := omega)  }); (first | (first | refine zaa ?_ | (refine zac ?_; (conv => { arg 5; simp }))))) | (refine zab rfl ?_ ?_; (focus (simp; done))))); with_reducible refine zad ?_; (first | refine ⟨rfl, ?_⟩ | refine ⟨by simp [quietB], by simp [quietU], ?_⟩ | skip)) | (refine WL.cond ?_; (conv => { arg 1; simp (disch := omega)  }); with_reducible (first | refine zaj ?_ | refine zak ?_ | refine zag (by omega) ?_ | refine zah (by omega) ?_))))
  refine WL.loop (fun m s => ∃ n : Nat, m = N - n ∧ n ≤ N ∧ s.frame 0 = .rd (rowC (a.map RF.of)) a.length ∧ s.frame 1 = .rd (rowC (b.map RF.of)) b.length ∧ s.frame 6 = .int .i64 n ∧
    ((n = 0 ∧ s.frame 5 = .nilS) ∨ ∃ G v, s.frame 5 = .sl ⟨52, G, 0⟩ v 0 n 3 ∧ s.store ⟨52, G, 0⟩ = some ⟨v, true, true, rowC (((mulL a b).take n).map RF.of)⟩)) N ?_ ?_
  · exact ⟨0, by omega, by omega, by simp, by simp, by simp, .inl ⟨rfl, by simp⟩⟩
  rintro m ⟨f, σ, g⟩ ⟨n, rfl, hn, h0, h1, h6, h5⟩
  simp only at h0 h1 h6 h5
  by_cases hn' : n < N
  · have hnI : (n : Int) < (a.length : Int) + b.length := by omega
    have htk : rowC (((mulL a b).take (n + 1)).map RF.of) = rowC (((mulL a b).take n).map RF.of) ++ (RF.of (mulS a b n (min (n + 1) a.length))).cells := by
      rw [htk0 n hn', List.map_append, zcm]; simp [rowC]
    have hm0 : RF.of (mulS a b n 0) = RF.of 0 := rfl
    (repeat (first | with_reducible (first | refine WL.seq ?_ | refine WL.skip ?_ | refine WL.label ?_ | refine WL.block ?_ | refine WL.scope ?_ | refine WL.nilS ?_ | refine WL.reS ?_ | refine WL.exS ?_ | refine WL.nilB ?_ | refine WL.nilT ?_ | refine WL.exit ?_ | refine WL.ret ?_ | refine WL.exT ?_ | refine WL.exB ?_ | refine WL.exN rfl ?_ | refine WL.reT ?_ | refine WL.reB ?_) | ((first | refine WL.reg rfl ?_ | refine WL.regT zai rfl ?_); (conv => { arg 3; simp [prep, prep1] }); (repeat (first | (refine zae ?_ ?_; (focus (simp; done)); (conv => { arg 4; simp (disch := omega) [h0, h1, h6, hnI, RF.pv, RF.cells] }); (first | (first | refine zaa ?_ | (refine zac ?_; (conv => { arg 5; simp }))) | (refine zal true rfl rfl ⟨_, Tryz.func44, rfl, rfl⟩ ?_; (conv => { arg 6; simp (disch := omega) [h0, h1, h6, hnI, RF.pv, RF.cells] }); refine zaf (c0) rfl ?_; (conv => { arg 5; simp (disch := omega) [h0, h1, h6, hnI, RF.pv, RF.cells] })))) | (refine zab rfl ?_ ?_; (focus (simp; done))))); with_reducible refine zad ?_; (first | refine ⟨rfl, ?_⟩ | refine ⟨by simp [quietB], by simp [quietU], ?_⟩ | skip)) | (refine WL.cond ?_; (conv => { arg 1; simp (disch := omega) [h0, h1, h6, hnI, RF.pv, RF.cells] }); with_reducible (first | refine zaj ?_ | refine zak ?_ | refine zag (by omega) ?_ | refine zah (by omega) ?_))))
    refine WL.loop (fun m s => ∃ i : Nat, m = min (n + 1) a.length - i ∧ i ≤ min (n + 1) a.length ∧ s.frame 0 = .rd (rowC (a.map RF.of)) a.length ∧ s.frame 1 = .rd (rowC (b.map RF.of)) b.length ∧ s.frame 6 = .int .i64 n ∧ s.frame 7 = .pt ⟨7, g 7, 0⟩ 0 0 ∧ s.frame 8 = .int .i64 i ∧
      s.store ⟨7, g 7, 0⟩ = some ⟨0, true, false, (RF.of (mulS a b n i)).cells⟩ ∧
      ((n = 0 ∧ s.frame 5 = .nilS) ∨ ∃ G v, s.frame 5 = .sl ⟨52, G, 0⟩ v 0 n 3 ∧ s.store ⟨52, G, 0⟩ = some ⟨v, true, true, rowC (((mulL a b).take n).map RF.of)⟩)) (min (n + 1) a.length) ?_ ?_
    · refine ⟨0, by omega, by omega, by simp [h0], by simp [h1], by simp [h6], by simp, by simp, by rw [hm0]; simp [RF.cells], ?_⟩
      rcases h5 with ⟨h50, h5⟩ | ⟨G, v, h5, hst⟩
      · exact .inl ⟨h50, by simp [h5]⟩
      · exact .inr ⟨G, v, by simp [h5], by simp [hst]⟩
    clear h0 h1 h6 h5 hm0
    rintro m ⟨f, σ, g2⟩ ⟨i, rfl, hi, h0, h1, h6, h7, h8, q7, h5⟩
    simp only at h0 h1 h6 h7 h8 q7 h5
    by_cases hi' : i < min (n + 1) a.length
    · have hin : i ≤ n := by omega
      have hia : i < a.length := by omega
      have hinI : ¬ (n : Int) < i := by omega
      have hinI2 : (i : Int) ≤ n := by omega
      obtain ⟨d, hd⟩ : ∃ d, n = i + d := ⟨n - i, by omega⟩
      have hdI : (n : Int) - i = (d : Int) := by omega
      have hdN : n - i = d := by omega
      have hms : mulS a b n (i + 1) = if d < b.length then mulS a b n i + a.getD i 0 * b.getD d 0 else mulS a b n i := by
        show (if n - i < b.length then _ else _) = _
        rw [hdN]
      by_cases hdb : d < b.length
      · rw [if_pos hdb] at hms
        have ra := zdo hia
        have rb := zdo hdb
        have hga : a.getD i 0 = a[i]'hia := by rw [List.getD_eq_getElem?_getD, List.getElem?_eq_getElem hia]; rfl
        have hgb : b.getD d 0 = b[d]'hdb := by rw [List.getD_eq_getElem?_getD, List.getElem?_eq_getElem hdb]; rfl
        have h3a : 3 ≤ (rowC (a.map RF.of)).length - i * 3 := by omega
        have h3b : 3 ≤ (rowC (b.map RF.of)).length - d * 3 := by omega
        have z1 := ha i
        have z2 := hb d
        have z3 := hz n i
        have z4 : i * (2 * K + 1) ≤ 1000 * 2001 := Nat.mul_le_mul (by omega) (by omega)
        have z5 := zcz (a.getD i 0) (b.getD d 0)
        rw [hga, hgb] at hms z5
        rw [hga] at z1
        rw [hgb] at z2
        have c2 : CallOk _ _ [(RF.of (a[i]'hia)).pv, (RF.of (b[d]'hdb)).pv] _ (RF.of (a[i]'hia * b[d]'hdb)).pv _ := zkh (a[i]'hia) (b[d]'hdb) (by omega) (by omega)
        have c3 := zki (mulS a b n i) (a[i]'hia * b[d]'hdb) (by omega) (by omega)
        rw [← hms] at c3
        replace c3 : CallOk _ _ [(RF.of (mulS a b n i)).pv, (RF.of (a[i]'hia * b[d]'hdb)).pv] _ (RF.of (mulS a b n (i + 1))).pv _ := c3
        clear z1 z2 z3 z4 z5 hga hgb hms hz
        generalize RF.of (a[i]'hia * b[d]'hdb) = r1 at *
        generalize RF.of (a[i]'hia) = xa at *
        generalize RF.of (b[d]'hdb) = xb at *
        generalize hr2 : RF.of (mulS a b n (i + 1)) = r2 at *
        generalize RF.of (mulS a b n i) = r0 at *
        (repeat (first | with_reducible (first | refine WL.seq ?_ | refine WL.skip ?_ | refine WL.label ?_ | refine WL.block ?_ | refine WL.scope ?_ | refine WL.nilS ?_ | refine WL.reS ?_ | refine WL.exS ?_ | refine WL.nilB ?_ | refine WL.nilT ?_ | refine WL.exit ?_ | refine WL.ret ?_ | refine WL.exT ?_ | refine WL.exB ?_ | refine WL.exN rfl ?_ | refine WL.reT ?_ | refine WL.reB ?_) | ((first | refine WL.reg rfl ?_ | refine WL.regT zai rfl ?_); (conv => { arg 3; simp [prep, prep1] }); (repeat (first | (refine zae ?_ ?_; (focus (simp; done)); (conv => { arg 4; simp (disch := omega) [h0, h1, h6, h7, h8, q7, hinI, hinI2, hia, hdI, hdb, ra, rb, h3a, h3b, hla, hlb, RF.pv, RF.cells] }); (first | (first | refine zaa ?_ | (refine zac ?_; (conv => { arg 5; simp }))) | ((first | refine zal true rfl rfl ⟨_, Tryz.func92, rfl, rfl⟩ ?_ | refine zal true rfl rfl ⟨_, Tryz.func93, rfl, rfl⟩ ?_); (conv => { arg 6; simp (disch := omega) [h0, h1, h6, h7, h8, q7, hinI, hinI2, hia, hdI, hdb, ra, rb, h3a, h3b, hla, hlb, RF.pv, RF.cells] }); (first | refine zaf (c2) rfl ?_ | refine zaf (c3) rfl ?_); (conv => { arg 5; simp (disch := omega) [h0, h1, h6, h7, h8, q7, hinI, hinI2, hia, hdI, hdb, ra, rb, h3a, h3b, hla, hlb, RF.pv, RF.cells] })))) | (refine zab rfl ?_ ?_; (focus (simp; done))))); with_reducible refine zad ?_; (first | refine ⟨rfl, ?_⟩ | refine ⟨by simp [quietB], by simp [quietU], ?_⟩ | skip)) | (refine WL.cond ?_; (conv => { arg 1; simp (disch := omega) [h0, h1, h6, h7, h8, q7, hinI, hinI2, hia, hdI, hdb, ra, rb, h3a, h3b, hla, hlb, RF.pv, RF.cells] }); with_reducible (first | refine zaj ?_ | refine zak ?_ | refine zag (by omega) ?_ | refine zah (by omega) ?_))))
        refine ⟨min (n + 1) a.length - (i + 1), by omega, i + 1, rfl, by omega, by simp [h0], by simp [h1], by simp [h6], by simp [h7], by simp, by rw [hr2]; simp [RF.cells], ?_⟩
        rcases h5 with ⟨h50, h5⟩ | ⟨G, v, h5, hst⟩
        · exact .inl ⟨h50, by simp [h5]⟩
        · exact .inr ⟨G, v, by simp [h5], by simp [hst]⟩
      · rw [if_neg hdb] at hms
        rw [← hms] at q7
        (repeat (first | with_reducible (first | refine WL.seq ?_ | refine WL.skip ?_ | refine WL.label ?_ | refine WL.block ?_ | refine WL.scope ?_ | refine WL.nilS ?_ | refine WL.reS ?_ | refine WL.exS ?_ | refine WL.nilB ?_ | refine WL.nilT ?_ | refine WL.exit ?_ | refine WL.ret ?_ | refine WL.exT ?_ | refine WL.exB ?_ | refine WL.exN rfl ?_ | refine WL.reT ?_ | refine WL.reB ?_) | ((first | refine WL.reg rfl ?_ | refine WL.regT zai rfl ?_); (conv => { arg 3; simp [prep, prep1] }); (repeat (first | (refine zae ?_ ?_; (focus (simp; done)); (conv => { arg 4; simp (disch := omega) [h0, h1, h6, h7, h8, hinI, hinI2, hia, hdI, hdb] }); (first | (first | refine zaa ?_ | (refine zac ?_; (conv => { arg 5; simp }))))) | (refine zab rfl ?_ ?_; (focus (simp; done))))); with_reducible refine zad ?_; (first | refine ⟨rfl, ?_⟩ | refine ⟨by simp [quietB], by simp [quietU], ?_⟩ | skip)) | (refine WL.cond ?_; (conv => { arg 1; simp (disch := omega) [h0, h1, h6, h7, h8, hinI, hinI2, hia, hdI, hdb] }); with_reducible (first | refine zaj ?_ | refine zak ?_ | refine zag (by omega) ?_ | refine zah (by omega) ?_))))
        refine ⟨min (n + 1) a.length - (i + 1), by omega, i + 1, rfl, by omega, by simp [h0], by simp [h1], by simp [h6], by simp [h7], by simp, by simp [q7], ?_⟩
        rcases h5 with ⟨h50, h5⟩ | ⟨G, v, h5, hst⟩
        · exact .inl ⟨h50, by simp [h5]⟩
        · exact .inr ⟨G, v, by simp [h5], by simp [hst]⟩
    · have hie : i = min (n + 1) a.length := by omega
      rw [← hie] at htk
      have hlt := zap (((mulL a b).take n).map RF.of)
      have hlt2 : (((mulL a b).take n).map RF.of).length = n := by simp [hl]; omega
      rw [hlt2] at hlt
      generalize RF.of (mulS a b n i) = w at *
      generalize hA1 : rowC (((mulL a b).take (n + 1)).map RF.of) = A1 at *
      generalize hA0 : rowC (((mulL a b).take n).map RF.of) = A at *
      have htk1 : A.take (n * 3) = A := List.take_of_length_le (by omega)
      by_cases hin : i ≤ n
      · have hinI2 : (i : Int) ≤ n := by omega
        have hinI : ¬ (n : Int) < i := by omega
        have hia : ¬ i < a.length := by omega
        rcases h5 with ⟨h50, h5⟩ | ⟨G, v, h5, hst⟩
        · have hA00 : A = [] := by rw [← hA0, h50]; simp [rowC]
          rw [hA00, List.nil_append] at htk
          (repeat (first | with_reducible (first | refine WL.seq ?_ | refine WL.skip ?_ | refine WL.label ?_ | refine WL.block ?_ | refine WL.scope ?_ | refine WL.nilS ?_ | refine WL.reS ?_ | refine WL.exS ?_ | refine WL.nilB ?_ | refine WL.nilT ?_ | refine WL.exit ?_ | refine WL.ret ?_ | refine WL.exT ?_ | refine WL.exB ?_ | refine WL.exN rfl ?_ | refine WL.reT ?_ | refine WL.reB ?_) | ((first | refine WL.reg rfl ?_ | refine WL.regT zai rfl ?_); (conv => { arg 3; simp [prep, prep1] }); (repeat (first | (refine zae ?_ ?_; (focus (simp; done)); (conv => { arg 4; simp (disch := omega) [h0, h1, h5, h6, h7, h8, q7, hinI, hinI2, hia, RF.cells] }); (first | (first | refine zaa ?_ | (refine zac ?_; (conv => { arg 5; simp }))))) | (refine zab rfl ?_ ?_; (focus (simp; done))))); with_reducible refine zad ?_; (first | refine ⟨rfl, ?_⟩ | refine ⟨by simp [quietB], by simp [quietU], ?_⟩ | skip)) | (refine WL.cond ?_; (conv => { arg 1; simp (disch := omega) [h0, h1, h5, h6, h7, h8, q7, hinI, hinI2, hia, RF.cells] }); with_reducible (first | refine zaj ?_ | refine zak ?_ | refine zag (by omega) ?_ | refine zah (by omega) ?_))))
          exact ⟨N - (n + 1), by omega, n + 1, rfl, by omega, by simp [h0], by simp [h1], by simp, .inr ⟨g2 52, 0, by simp [h50], by rw [hA1, htk]; simp [RF.cells]⟩⟩
        · (repeat (first | with_reducible (first | refine WL.seq ?_ | refine WL.skip ?_ | refine WL.label ?_ | refine WL.block ?_ | refine WL.scope ?_ | refine WL.nilS ?_ | refine WL.reS ?_ | refine WL.exS ?_ | refine WL.nilB ?_ | refine WL.nilT ?_ | refine WL.exit ?_ | refine WL.ret ?_ | refine WL.exT ?_ | refine WL.exB ?_ | refine WL.exN rfl ?_ | refine WL.reT ?_ | refine WL.reB ?_) | ((first | refine WL.reg rfl ?_ | refine WL.regT zai rfl ?_); (conv => { arg 3; simp [prep, prep1] }); (repeat (first | (refine zae ?_ ?_; (focus (simp; done)); (conv => { arg 4; simp (disch := omega) [h0, h1, h5, hst, h6, h7, h8, q7, hinI, hinI2, hia, hlt, htk1, RF.cells] }); (first | (first | refine zaa ?_ | (refine zac ?_; (conv => { arg 5; simp }))))) | (refine zab rfl ?_ ?_; (focus (simp; done))))); with_reducible refine zad ?_; (first | refine ⟨rfl, ?_⟩ | refine ⟨by simp [quietB], by simp [quietU], ?_⟩ | skip)) | (refine WL.cond ?_; (conv => { arg 1; simp (disch := omega) [h0, h1, h5, hst, h6, h7, h8, q7, hinI, hinI2, hia, hlt, htk1, RF.cells] }); with_reducible (first | refine zaj ?_ | refine zak ?_ | refine zag (by omega) ?_ | refine zah (by omega) ?_))))
          exact ⟨N - (n + 1), by omega, n + 1, rfl, by omega, by simp [h0], by simp [h1], by simp, .inr ⟨G, v + 1, by simp, by rw [hA1, htk]; simp [RF.cells]⟩⟩
      · have hinI2 : ¬ (i : Int) ≤ n := by omega
        have hinI : (n : Int) < i := by omega
        rcases h5 with ⟨h50, h5⟩ | ⟨G, v, h5, hst⟩
        · have hA00 : A = [] := by rw [← hA0, h50]; simp [rowC]
          rw [hA00, List.nil_append] at htk
          (repeat (first | with_reducible (first | refine WL.seq ?_ | refine WL.skip ?_ | refine WL.label ?_ | refine WL.block ?_ | refine WL.scope ?_ | refine WL.nilS ?_ | refine WL.reS ?_ | refine WL.exS ?_ | refine WL.nilB ?_ | refine WL.nilT ?_ | refine WL.exit ?_ | refine WL.ret ?_ | refine WL.exT ?_ | refine WL.exB ?_ | refine WL.exN rfl ?_ | refine WL.reT ?_ | refine WL.reB ?_) | ((first | refine WL.reg rfl ?_ | refine WL.regT zai rfl ?_); (conv => { arg 3; simp [prep, prep1] }); (repeat (first | (refine zae ?_ ?_; (focus (simp; done)); (conv => { arg 4; simp (disch := omega) [h0, h1, h5, h6, h7, h8, q7, hin, hinI, hinI2, RF.cells] }); (first | (first | refine zaa ?_ | (refine zac ?_; (conv => { arg 5; simp }))))) | (refine zab rfl ?_ ?_; (focus (simp; done))))); with_reducible refine zad ?_; (first | refine ⟨rfl, ?_⟩ | refine ⟨by simp [quietB], by simp [quietU], ?_⟩ | skip)) | (refine WL.cond ?_; (conv => { arg 1; simp (disch := omega) [h0, h1, h5, h6, h7, h8, q7, hin, hinI, hinI2, RF.cells] }); with_reducible (first | refine zaj ?_ | refine zak ?_ | refine zag (by omega) ?_ | refine zah (by omega) ?_))))
          exact ⟨N - (n + 1), by omega, n + 1, rfl, by omega, by simp [h0], by simp [h1], by simp, .inr ⟨g2 52, 0, by simp [h50], by rw [hA1, htk]; simp [RF.cells]⟩⟩
        · (repeat (first | with_reducible (first | refine WL.seq ?_ | refine WL.skip ?_ | refine WL.label ?_ | refine WL.block ?_ | refine WL.scope ?_ | refine WL.nilS ?_ | refine WL.reS ?_ | refine WL.exS ?_ | refine WL.nilB ?_ | refine WL.nilT ?_ | refine WL.exit ?_ | refine WL.ret ?_ | refine WL.exT ?_ | refine WL.exB ?_ | refine WL.exN rfl ?_ | refine WL.reT ?_ | refine WL.reB ?_) | ((first | refine WL.reg rfl ?_ | refine WL.regT zai rfl ?_); (conv => { arg 3; simp [prep, prep1] }); (repeat (first | (refine zae ?_ ?_; (focus (simp; done)); (conv => { arg 4; simp (disch := omega) [h0, h1, h5, hst, h6, h7, h8, q7, hin, hinI, hinI2, hlt, htk1, RF.cells] }); (first | (first | refine zaa ?_ | (refine zac ?_; (conv => { arg 5; simp }))))) | (refine zab rfl ?_ ?_; (focus (simp; done))))); with_reducible refine zad ?_; (first | refine ⟨rfl, ?_⟩ | refine ⟨by simp [quietB], by simp [quietU], ?_⟩ | skip)) | (refine WL.cond ?_; (conv => { arg 1; simp (disch := omega) [h0, h1, h5, hst, h6, h7, h8, q7, hin, hinI, hinI2, hlt, htk1, RF.cells] }); with_reducible (first | refine zaj ?_ | refine zak ?_ | refine zag (by omega) ?_ | refine zah (by omega) ?_))))
          exact ⟨N - (n + 1), by omega, n + 1, rfl, by omega, by simp [h0], by simp [h1], by simp, .inr ⟨G, v + 1, by simp, by rw [hA1, htk]; simp [RF.cells]⟩⟩
  · have hiN : n = N := by omega
    subst hiN
    have hnI : ¬ (n : Int) < (a.length : Int) + b.length := by omega
    rw [List.take_of_length_le (by omega)] at h5
    rcases h5 with ⟨h50, h5⟩ | ⟨G, v, h5, hst⟩
    · have hd : mulL a b = [] := List.eq_nil_of_length_eq_zero (by omega)
      rw [hd] at cN ⊢
      rw [h50] at cN
      simp only [List.map_nil, rowC, List.flatMap_nil] at cN
      (repeat (first | with_reducible (first | refine WL.seq ?_ | refine WL.skip ?_ | refine WL.label ?_ | refine WL.block ?_ | refine WL.scope ?_ | refine WL.nilS ?_ | refine WL.reS ?_ | refine WL.exS ?_ | refine WL.nilB ?_ | refine WL.nilT ?_ | refine WL.exit ?_ | refine WL.ret ?_ | refine WL.exT ?_ | refine WL.exB ?_ | refine WL.exN rfl ?_ | refine WL.reT ?_ | refine WL.reB ?_) | ((first | refine WL.reg rfl ?_ | refine WL.regT zai rfl ?_); (conv => { arg 3; simp [prep, prep1] }); (repeat (first | (refine zae ?_ ?_; (focus (simp; done)); (conv => { arg 4; simp (disch := omega) [h0, h1, h6, h5, hnI] }); (first | (first | refine zaa ?_ | (refine zac ?_; (conv => { arg 5; simp }))) | (refine zal true rfl rfl ⟨_, Tryz.func118, rfl, rfl⟩ ?_; (conv => { arg 6; simp (disch := omega) [h0, h1, h6, h5, hnI] }); refine zaf (cN) rfl ?_; (conv => { arg 5; simp (disch := omega) [h0, h1, h6, h5, hnI] })))) | (refine zab rfl ?_ ?_; (focus (simp; done))))); with_reducible refine zad ?_; (first | refine ⟨rfl, ?_⟩ | refine ⟨by simp [quietB], by simp [quietU], ?_⟩ | skip)) | (refine WL.cond ?_; (conv => { arg 1; simp (disch := omega) [h0, h1, h6, h5, hnI] }); with_reducible (first | refine zaj ?_ | refine zak ?_ | refine zag (by omega) ?_ | refine zah (by omega) ?_))))
      refine ⟨[], ?_⟩
      simp (disch := omega) [rowC]
    · have htk1 : (rowC ((mulL a b).map RF.of)).take (n * 3) = rowC ((mulL a b).map RF.of) := List.take_of_length_le (by omega)
      generalize (trimQ (mulL a b)).length = tl at *
      generalize rowC ((trimQ (mulL a b)).map RF.of) = TT at *
      generalize rowC ((mulL a b).map RF.of) = A at *
      (repeat (first | with_reducible (first | refine WL.seq ?_ | refine WL.skip ?_ | refine WL.label ?_ | refine WL.block ?_ | refine WL.scope ?_ | refine WL.nilS ?_ | refine WL.reS ?_ | refine WL.exS ?_ | refine WL.nilB ?_ | refine WL.nilT ?_ | refine WL.exit ?_ | refine WL.ret ?_ | refine WL.exT ?_ | refine WL.exB ?_ | refine WL.exN rfl ?_ | refine WL.reT ?_ | refine WL.reB ?_) | ((first | refine WL.reg rfl ?_ | refine WL.regT zai rfl ?_); (conv => { arg 3; simp [prep, prep1] }); (repeat (first | (refine zae ?_ ?_; (focus (simp; done)); (conv => { arg 4; simp (disch := omega) [h0, h1, h6, h5, hst, hnI, hlC, htk1] }); (first | (first | refine zaa ?_ | (refine zac ?_; (conv => { arg 5; simp }))) | (refine zal true rfl rfl ⟨_, Tryz.func118, rfl, rfl⟩ ?_; (conv => { arg 6; simp (disch := omega) [h0, h1, h6, h5, hst, hnI, hlC, htk1] }); refine zaf (cN) rfl ?_; (conv => { arg 5; simp (disch := omega) [h0, h1, h6, h5, hst, hnI, hlC, htk1] })))) | (refine zab rfl ?_ ?_; (focus (simp; done))))); with_reducible refine zad ?_; (first | refine ⟨rfl, ?_⟩ | refine ⟨by simp [quietB], by simp [quietU], ?_⟩ | skip)) | (refine WL.cond ?_; (conv => { arg 1; simp (disch := omega) [h0, h1, h6, h5, hst, hnI, hlC, htk1] }); with_reducible (first | refine zaj ?_ | refine zak ?_ | refine zag (by omega) ?_ | refine zah (by omega) ?_))))
      refine ⟨[], ?_⟩
      simp (disch := omega) 
def Spn.norm (c : Spn) : Spn := ⟨RF.of c.t.q, RF.of c.h.q, (qs c.y0).map RF.of, (qs c.y1).map RF.of, (qs c.f0).map RF.of, (qs c.f1).map RF.of⟩
set_option maxHeartbeats 2000000 in
theorem zlo (c : Spn) (hc : c.ok 65536) (l0 : c.y0.length ≤ 1000) (l1 : c.y1.length ≤ 1000) (l2 : c.f0.length ≤ 1000) (l3 : c.f1.length ≤ 1000) : CallOk Tryz.prog 18 [c.pv] [] c.norm.pv [] := by
  have k1 : CallOk Tryz.prog 21 [c.t.pv] [] (RF.of c.t.q).pv [] := zfq c.t.neg c.t.n c.t.d hc.t.wn hc.t.wd (by have := hc.t.ln; omega) (by have := hc.t.ld; omega)
  have k2 : CallOk Tryz.prog 21 [c.h.pv] [] (RF.of c.h.q).pv [] := zfq c.h.neg c.h.n c.h.d hc.h.wn hc.h.wd (by have := hc.h.ln; omega) (by have := hc.h.ld; omega)
  have k3 := zha c.y0 (by omega) (fun x hx => (hc.y0 x hx).mono (by decide))
  have k4 := zha c.y1 (by omega) (fun x hx => (hc.y1 x hx).mono (by decide))
  have k5 := zha c.f0 (by omega) (fun x hx => (hc.f0 x hx).mono (by decide))
  have k6 := zha c.f1 (by omega) (fun x hx => (hc.f1 x hx).mono (by decide))
  clear hc l0 l1 l2 l3
  obtain ⟨t, h, y0, y1, f0, f1⟩ := c
  simp only [Spn.norm, Spn.pv, Spn.cells, rowQ] at *
  generalize RF.of t.q = t' at *
  generalize RF.of h.q = h' at *
  generalize (qs y0).map RF.of = a0 at *
  generalize (qs y1).map RF.of = a1 at *
  generalize (qs f0).map RF.of = b0 at *
  generalize (qs f1).map RF.of = b1 at *
  simp only [row, RF.pv, RF.cells] at *
  refine CallOk.of_wl Tryz.func18 rfl rfl rfl (Nat.le_of_ble_eq_true rfl) ?_
  (repeat (first | with_reducible (first | refine WL.seq ?_ | refine WL.skip ?_ | refine WL.label ?_ | refine WL.block ?_ | refine WL.scope ?_ | refine WL.nilS ?_ | refine WL.reS ?_ | refine WL.exS ?_ | refine WL.nilB ?_ | refine WL.nilT ?_ | refine WL.exit ?_ | refine WL.ret ?_ | refine WL.exT ?_ | refine WL.exB ?_ | refine WL.exN rfl ?_ | refine WL.reT ?_ | refine WL.reB ?_) | ((first | refine WL.reg rfl ?_ | refine WL.regT zai rfl ?_); (conv => { arg 3; simp [prep, prep1] }); (repeat (first | (refine zae ?_ ?_; (focus (simp; done)); (conv => { arg 4; simp (disch := omega)  }); (first | (first | refine zaa ?_ | (refine zac ?_; (conv => { arg 5; simp }))) | ((first | refine zal true rfl rfl ⟨_, Tryz.func21, rfl, rfl⟩ ?_ | refine zal true rfl rfl ⟨_, Tryz.func37, rfl, rfl⟩ ?_); (conv => { arg 6; simp (disch := omega)  }); (first | refine zaf (k1) rfl ?_ | refine zaf (k2) rfl ?_ | refine zaf (k3) rfl ?_ | refine zaf (k4) rfl ?_ | refine zaf (k5) rfl ?_ | refine zaf (k6) rfl ?_); (conv => { arg 5; simp (disch := omega)  })))) | (refine zab rfl ?_ ?_; (focus (simp; done))))); with_reducible refine zad ?_; (first | refine ⟨rfl, ?_⟩ | refine ⟨by simp [quietB], by simp [quietU], ?_⟩ | skip)) | (refine WL.cond ?_; (conv => { arg 1; simp (disch := omega)  }); with_reducible (first | refine zaj ?_ | refine zak ?_ | refine zag (by omega) ?_ | refine zah (by omega) ?_))))
  refine ⟨[], ?_⟩
  simp (disch := omega) 
theorem zjb (c : Spn) (zh : szQ c.h.q ≤ 1000) (l0 : c.y0.length ≤ 300) : CallOk Tryz.prog 19 [c.norm.pv] [] (.bool c.right) [] := by
  have k1 : CallOk Tryz.prog 67 [(RF.of c.h.q).pv] [] _ [] := refFSign c.h.q (by omega)
  have hl : ∀ l : List RF, ((qs l).map RF.of).length = l.length := fun l => by simp [qs]
  unfold Spn.right
  have h30 : ((c.y0.length : Int) ≤ 300) := by omega
  obtain ⟨t, h, y0, y1, f0, f1⟩ := c
  simp only [Spn.norm, Spn.pv, Spn.cells, row, hl, RF.pv, RF.cells] at *
  generalize sgnQ h.q = z at *
  generalize rowC ((qs y0).map RF.of) = a0 at *
  generalize rowC ((qs y1).map RF.of) = a1 at *
  generalize rowC ((qs f0).map RF.of) = b0 at *
  generalize rowC ((qs f1).map RF.of) = b1 at *
  by_cases h1 : 0 < z
  · by_cases h3 : y1.length = y0.length
    · by_cases h4 : f0.length = y0.length
      · refine CallOk.of_wl Tryz.func19 rfl rfl rfl (Nat.le_of_ble_eq_true rfl) ?_
        (repeat (first | with_reducible (first | refine WL.seq ?_ | refine WL.skip ?_ | refine WL.label ?_ | refine WL.block ?_ | refine WL.scope ?_ | refine WL.nilS ?_ | refine WL.reS ?_ | refine WL.exS ?_ | refine WL.nilB ?_ | refine WL.nilT ?_ | refine WL.exit ?_ | refine WL.ret ?_ | refine WL.exT ?_ | refine WL.exB ?_ | refine WL.exN rfl ?_ | refine WL.reT ?_ | refine WL.reB ?_) | ((first | refine WL.reg rfl ?_ | refine WL.regT zai rfl ?_); (conv => { arg 3; simp [prep, prep1] }); (repeat (first | (refine zae ?_ ?_; (focus (simp; done)); (conv => { arg 4; simp (disch := omega) [h1, h3, h4] }); (first | (first | refine zaa ?_ | (refine zac ?_; (conv => { arg 5; simp }))) | (refine zal true rfl rfl ⟨_, Tryz.func67, rfl, rfl⟩ ?_; (conv => { arg 6; simp (disch := omega) [h1, h3, h4] }); refine zaf (k1) rfl ?_; (conv => { arg 5; simp (disch := omega) [h1, h3, h4] })))) | (refine zab rfl ?_ ?_; (focus (simp; done))))); with_reducible refine zad ?_; (first | refine ⟨rfl, ?_⟩ | refine ⟨by simp [quietB], by simp [quietU], ?_⟩ | skip)) | (refine WL.cond ?_; (conv => { arg 1; simp (disch := omega) [h1, h3, h4] }); with_reducible (first | refine zaj ?_ | refine zak ?_ | refine zag (by omega) ?_ | refine zah (by omega) ?_))))
        refine ⟨[], ?_⟩
        simp (disch := omega) [h1, h3, h4, h30]
      · refine CallOk.of_wl Tryz.func19 rfl rfl rfl (Nat.le_of_ble_eq_true rfl) ?_
        (repeat (first | with_reducible (first | refine WL.seq ?_ | refine WL.skip ?_ | refine WL.label ?_ | refine WL.block ?_ | refine WL.scope ?_ | refine WL.nilS ?_ | refine WL.reS ?_ | refine WL.exS ?_ | refine WL.nilB ?_ | refine WL.nilT ?_ | refine WL.exit ?_ | refine WL.ret ?_ | refine WL.exT ?_ | refine WL.exB ?_ | refine WL.exN rfl ?_ | refine WL.reT ?_ | refine WL.reB ?_) | ((first | refine WL.reg rfl ?_ | refine WL.regT zai rfl ?_); (conv => { arg 3; simp [prep, prep1] }); (repeat (first | (refine zae ?_ ?_; (focus (simp; done)); (conv => { arg 4; simp (disch := omega) [h1, h3, h4] }); (first | (first | refine zaa ?_ | (refine zac ?_; (conv => { arg 5; simp }))) | (refine zal true rfl rfl ⟨_, Tryz.func67, rfl, rfl⟩ ?_; (conv => { arg 6; simp (disch := omega) [h1, h3, h4] }); refine zaf (k1) rfl ?_; (conv => { arg 5; simp (disch := omega) [h1, h3, h4] })))) | (refine zab rfl ?_ ?_; (focus (simp; done))))); with_reducible refine zad ?_; (first | refine ⟨rfl, ?_⟩ | refine ⟨by simp [quietB], by simp [quietU], ?_⟩ | skip)) | (refine WL.cond ?_; (conv => { arg 1; simp (disch := omega) [h1, h3, h4] }); with_reducible (first | refine zaj ?_ | refine zak ?_ | refine zag (by omega) ?_ | refine zah (by omega) ?_))))
        refine ⟨[], ?_⟩
        simp (disch := omega) [h1, h3, h4, h30]
    · refine CallOk.of_wl Tryz.func19 rfl rfl rfl (Nat.le_of_ble_eq_true rfl) ?_
      (repeat (first | with_reducible (first | refine WL.seq ?_ | refine WL.skip ?_ | refine WL.label ?_ | refine WL.block ?_ | refine WL.scope ?_ | refine WL.nilS ?_ | refine WL.reS ?_ | refine WL.exS ?_ | refine WL.nilB ?_ | refine WL.nilT ?_ | refine WL.exit ?_ | refine WL.ret ?_ | refine WL.exT ?_ | refine WL.exB ?_ | refine WL.exN rfl ?_ | refine WL.reT ?_ | refine WL.reB ?_) | ((first | refine WL.reg rfl ?_ | refine WL.regT zai rfl ?_); (conv => { arg 3; simp [prep, prep1] }); (repeat (first | (refine zae ?_ ?_; (focus (simp; done)); (conv => { arg 4; simp (disch := omega) [h1, h3] }); (first | (first | refine zaa ?_ | (refine zac ?_; (conv => { arg 5; simp }))) | (refine zal true rfl rfl ⟨_, Tryz.func67, rfl, rfl⟩ ?_; (conv => { arg 6; simp (disch := omega) [h1, h3] }); refine zaf (k1) rfl ?_; (conv => { arg 5; simp (disch := omega) [h1, h3] })))) | (refine zab rfl ?_ ?_; (focus (simp; done))))); with_reducible refine zad ?_; (first | refine ⟨rfl, ?_⟩ | refine ⟨by simp [quietB], by simp [quietU], ?_⟩ | skip)) | (refine WL.cond ?_; (conv => { arg 1; simp (disch := omega) [h1, h3] }); with_reducible (first | refine zaj ?_ | refine zak ?_ | refine zag (by omega) ?_ | refine zah (by omega) ?_))))
      refine ⟨[], ?_⟩
      simp (disch := omega) [h1, h3, h30]
  · refine CallOk.of_wl Tryz.func19 rfl rfl rfl (Nat.le_of_ble_eq_true rfl) ?_
    (repeat (first | with_reducible (first | refine WL.seq ?_ | refine WL.skip ?_ | refine WL.label ?_ | refine WL.block ?_ | refine WL.scope ?_ | refine WL.nilS ?_ | refine WL.reS ?_ | refine WL.exS ?_ | refine WL.nilB ?_ | refine WL.nilT ?_ | refine WL.exit ?_ | refine WL.ret ?_ | refine WL.exT ?_ | refine WL.exB ?_ | refine WL.exN rfl ?_ | refine WL.reT ?_ | refine WL.reB ?_) | ((first | refine WL.reg rfl ?_ | refine WL.regT zai rfl ?_); (conv => { arg 3; simp [prep, prep1] }); (repeat (first | (refine zae ?_ ?_; (focus (simp; done)); (conv => { arg 4; simp (disch := omega) [h1] }); (first | (first | refine zaa ?_ | (refine zac ?_; (conv => { arg 5; simp }))) | (refine zal true rfl rfl ⟨_, Tryz.func67, rfl, rfl⟩ ?_; (conv => { arg 6; simp (disch := omega) [h1] }); refine zaf (k1) rfl ?_; (conv => { arg 5; simp (disch := omega) [h1] })))) | (refine zab rfl ?_ ?_; (focus (simp; done))))); with_reducible refine zad ?_; (first | refine ⟨rfl, ?_⟩ | refine ⟨by simp [quietB], by simp [quietU], ?_⟩ | skip)) | (refine WL.cond ?_; (conv => { arg 1; simp (disch := omega) [h1] }); with_reducible (first | refine zaj ?_ | refine zak ?_ | refine zag (by omega) ?_ | refine zah (by omega) ?_))))
    refine ⟨[], ?_⟩
    simp (disch := omega) [h1]
def riseQ (c : Spn) (i : Nat) : Rat := ((qs c.y1).getD i 0 - (qs c.y0).getD i 0) / c.h.q
def firstQ (c : Spn) (i : Nat) : Rat := (riseQ c i - (qs c.f0).getD i 0) / c.h.q
def lastQ (c : Spn) (i : Nat) : Rat := ((qs c.f1).getD i 0 - riseQ c i) / c.h.q
def secQ (c : Spn) (i : Nat) : Rat := (lastQ c i - firstQ c i) / c.h.q
def cubQ (c : Spn) (i : Nat) : List Rat := trimQ (addL2 (trimQ [(qs c.y0).getD i 0, (qs c.f0).getD i 0, firstQ c i]) (trimQ (mulL [0, 0, secQ c i] [-c.h.q, 1])))
theorem zit (l : List Rat) (i : Nat) : (trimQ l).getD i 0 = l.getD i 0 := by
  have key : ∀ n, n ≤ l.length → (l.take (lastNZ l n)).getD i 0 = (l.take n).getD i 0 := by
    intro n
    induction n with
    | zero => intro _; rfl
    | succ n ih =>
      intro h
      unfold lastNZ
      split
      · rename_i h0
        rw [ih (by omega)]
        have hl : n < l.length := by omega
        rw [List.take_succ_eq_append_getElem hl]
        rw [List.getD_eq_getElem?_getD, List.getElem?_eq_getElem hl, Option.getD_some] at h0
        rw [h0]
        by_cases hi : i < (l.take n).length
        · rw [List.getD_eq_getElem?_getD, List.getD_eq_getElem?_getD, List.getElem?_append_left hi]
        · rw [List.getD_eq_getElem?_getD, List.getD_eq_getElem?_getD, List.getElem?_append_right (by omega), List.getElem?_eq_none (by omega)]
          cases hk : i - (l.take n).length with
          | zero => rfl
          | succ k => rfl
      · rfl
  have := key l.length (Nat.le_refl _)
  rw [List.take_length] at this
  exact this
theorem zch {l : List Rat} {K : Nat} (hK : 1 ≤ K) (h : ∀ q ∈ l, szQ q ≤ K) (i : Nat) : szQ (l.getD i 0) ≤ K := by
  by_cases hi : i < l.length
  · rw [List.getD_eq_getElem?_getD, List.getElem?_eq_getElem hi]
    exact h _ (List.getElem_mem hi)
  · rw [List.getD_eq_getElem?_getD, List.getElem?_eq_none (by omega)]
    exact Nat.le_trans zev hK
theorem zfo {l : List Rat} {K : Nat} (hK : 1 ≤ K) (h : ∀ q ∈ l, szQ q ≤ K) (i : Nat) : szQ ((trimQ l).getD i 0) ≤ K := by rw [zit]; exact zch hK h i
theorem zdt (l : List Rat) : (trimQ l).length ≤ l.length := by unfold trimQ; rw [List.length_take]; omega
theorem zqh {l : List RF} (h : ∀ x ∈ l, x.ok 2) : ∀ q ∈ qs l, szQ q ≤ 2 := fun q hq => by
  obtain ⟨x, hx, rfl⟩ := List.mem_map.1 hq
  exact (h x hx).sz (by decide)
theorem zng {a b : List Rat} {K : Nat} (ha : ∀ i, szQ (a.getD i 0) ≤ K) (hb : ∀ i, szQ (b.getD i 0) ≤ K) (hl : a.length ≤ 3) : ∀ q ∈ mulL a b, szQ q ≤ 3 * (2 * K + 1) + 1 := fun q hq => by
  simp only [mulL, List.mem_map, List.mem_range] at hq
  obtain ⟨n, _, rfl⟩ := hq
  have h1 := zjy a b K ha hb n (min (n + 1) a.length)
  have h2 : min (n + 1) a.length * (2 * K + 1) ≤ 3 * (2 * K + 1) := Nat.mul_le_mul_right _ (by omega)
  omega
structure CubSz (c : Spn) (i : Nat) : Prop where
  y0 : szQ ((qs c.y0).getD i 0) ≤ 2
  y1 : szQ ((qs c.y1).getD i 0) ≤ 2
  f0 : szQ ((qs c.f0).getD i 0) ≤ 2
  f1 : szQ ((qs c.f1).getD i 0) ≤ 2
  h : szQ c.h.q ≤ 2
  rise : szQ (riseQ c i) ≤ 7
  first : szQ (firstQ c i) ≤ 12
  last : szQ (lastQ c i) ≤ 12
  sec : szQ (secQ c i) ≤ 27
theorem zrt (c : Spn) (hc : c.ok 2) (i : Nat) : CubSz c i := by
  have a0 := zch (by decide) (zqh hc.y0) i
  have a1 := zch (by decide) (zqh hc.y1) i
  have a2 := zch (by decide) (zqh hc.f0) i
  have a3 := zch (by decide) (zqh hc.f1) i
  have ah := hc.h.sz (by decide)
  have r1 := zcp ((qs c.y1).getD i 0) ((qs c.y0).getD i 0)
  have r2 := zgh ((qs c.y1).getD i 0 - (qs c.y0).getD i 0) c.h.q
  have r : szQ (riseQ c i) ≤ 7 := by unfold riseQ; omega
  have f1 := zcp (riseQ c i) ((qs c.f0).getD i 0)
  have f2 := zgh (riseQ c i - (qs c.f0).getD i 0) c.h.q
  have f : szQ (firstQ c i) ≤ 12 := by unfold firstQ; omega
  have l1 := zcp ((qs c.f1).getD i 0) (riseQ c i)
  have l2 := zgh ((qs c.f1).getD i 0 - riseQ c i) c.h.q
  have l : szQ (lastQ c i) ≤ 12 := by unfold lastQ; omega
  have s1 := zcp (lastQ c i) (firstQ c i)
  have s2 := zgh (lastQ c i - firstQ c i) c.h.q
  have s : szQ (secQ c i) ≤ 27 := by unfold secQ; omega
  exact ⟨a0, a1, a2, a3, ah, r, f, l, s⟩
theorem zil (c : Spn) (hc : c.ok 2) (i : Nat) : (cubQ c i).length ≤ 5 ∧ ∀ k, szQ ((cubQ c i).getD k 0) ≤ 200 := by
  obtain ⟨a0, a1, a2, a3, ah, r, f, l, s⟩ := zrt c hc i
  have e1 : ∀ q ∈ [(qs c.y0).getD i 0, (qs c.f0).getD i 0, firstQ c i], szQ q ≤ 12 := by intro q hq; simp only [List.mem_cons, List.not_mem_nil, or_false] at hq; rcases hq with rfl | rfl | rfl <;> omega
  have hz := zev
  have ho := zjx
  have hn := zgg c.h.q
  have e2 : ∀ q ∈ [0, 0, secQ c i], szQ q ≤ 27 := by intro q hq; simp only [List.mem_cons, List.not_mem_nil, or_false] at hq; rcases hq with rfl | rfl | rfl <;> omega
  have e3 : ∀ q ∈ [-c.h.q, 1], szQ q ≤ 27 := by intro q hq; simp only [List.mem_cons, List.not_mem_nil, or_false] at hq; rcases hq with rfl | rfl <;> omega
  have e4 := zng (zch (by decide) e2) (zch (by decide) e3) (by simp)
  unfold cubQ
  refine ⟨?_, fun k => ?_⟩
  · refine Nat.le_trans (zdt _) ?_
    rw [zeu]
    have h1 := zdt [(qs c.y0).getD i 0, (qs c.f0).getD i 0, firstQ c i]
    have h2 := zdt (mulL [0, 0, secQ c i] [-c.h.q, 1])
    rw [zhc] at h2
    simp only [List.length_cons, List.length_nil] at h1 h2
    omega
  · refine zfo (by decide) ?_ k
    intro q hq
    simp only [addL2, List.mem_map, List.mem_range] at hq
    obtain ⟨j, _, rfl⟩ := hq
    have h1 := zfo (by decide) e1 j
    have h2 := zfo (by decide) e4 j
    have := zgi ((trimQ [(qs c.y0).getD i 0, (qs c.f0).getD i 0, firstQ c i]).getD j 0) ((trimQ (mulL [0, 0, secQ c i] [-c.h.q, 1])).getD j 0)
    omega
theorem WL.fwdG {P : Program} {nt : Nat} {cs : List Code} {Q : Exit → St → Prop} {s : St} (J : St → Prop) (h : J s) (k : ∀ (f : Nat → PV) (σ : Id → Option Blk) (g : Nat → Nat), g = s.gens → J ⟨f, σ, g⟩ → WL P nt cs Q ⟨f, σ, g⟩) : WL P nt cs Q s := k s.frame s.store s.gens rfl h
theorem zqj (b0 : Bool) (x0 y0 : List PV) (n0 m0 : Nat) (b1 : Bool) (x1 y1 : List PV) (n1 m1 : Nat) (σ : Id → Option Blk) (d g : Nat) : litE Tryz.prog 25 2 [(0, .agg [.bool b0, .rd x0 n0, .rd y0 m0]), (1, .agg [.bool b1, .rd x1 n1, .rd y1 m1])] σ d g = some ⟨.sl ⟨d, g, 0⟩ 0 0 2 3, [], [(⟨d, g, 0⟩, ⟨0, true, true, [.bool b0, .rd x0 n0, .rd y0 m0, .bool b1, .rd x1 n1, .rd y1 m1]⟩)], true⟩ := by
  simp
theorem zlu (b0 : Bool) (x0 y0 : List PV) (n0 m0 : Nat) (b1 : Bool) (x1 y1 : List PV) (n1 m1 : Nat) (b2 : Bool) (x2 y2 : List PV) (n2 m2 : Nat) (σ : Id → Option Blk) (d g : Nat) : litE Tryz.prog 25 3 [(0, .agg [.bool b0, .rd x0 n0, .rd y0 m0]), (1, .agg [.bool b1, .rd x1 n1, .rd y1 m1]), (2, .agg [.bool b2, .rd x2 n2, .rd y2 m2])] σ d g = some ⟨.sl ⟨d, g, 0⟩ 0 0 3 3, [], [(⟨d, g, 0⟩, ⟨0, true, true, [.bool b0, .rd x0 n0, .rd y0 m0, .bool b1, .rd x1 n1, .rd y1 m1, .bool b2, .rd x2 n2, .rd y2 m2]⟩)], true⟩ := by
  simp
theorem zex {l : List RF} {i : Nat} (h : i < l.length) : ((rowC ((qs l).map RF.of)).drop (i * 3)).take 3 = (RF.of ((qs l).getD i 0)).cells := by
  have h' : i < (qs l).length := by simpa [qs] using h
  rw [zdo h', List.getD_eq_getElem?_getD, List.getElem?_eq_getElem h']; rfl
set_option maxHeartbeats 4000000 in
theorem refCubic (c : Spn) (i : Nat) (hc : c.ok 2) (hh : c.h.q ≠ 0) (h0 : i < c.y0.length) (h1 : i < c.y1.length) (h2 : i < c.f0.length) (h3 : i < c.f1.length) :
    CallOk Tryz.prog 74 [c.norm.pv, .int .i64 i] [] (rowQ (cubQ c i)) [] := by
  obtain ⟨a0, a1, a2, a3, ah, zr, zf, zl, zs⟩ := zrt c hc i
  have x0 := zex h0
  have x1 := zex h1
  have x2 := zex h2
  have x3 := zex h3
  have l0 := zap ((qs c.y0).map RF.of)
  have l1 := zap ((qs c.y1).map RF.of)
  have l2 := zap ((qs c.f0).map RF.of)
  have l3 := zap ((qs c.f1).map RF.of)
  have hl : ∀ l : List RF, ((qs l).map RF.of).length = l.length := fun l => by simp [qs]
  rw [hl] at l0 l1 l2 l3
  have b0 : 3 ≤ (rowC ((qs c.y0).map RF.of)).length - i * 3 := by omega
  have b1 : 3 ≤ (rowC ((qs c.y1).map RF.of)).length - i * 3 := by omega
  have b2 : 3 ≤ (rowC ((qs c.f0).map RF.of)).length - i * 3 := by omega
  have b3 : 3 ≤ (rowC ((qs c.f1).map RF.of)).length - i * 3 := by omega
  have k1 := zhv ((qs c.y1).getD i 0) ((qs c.y0).getD i 0) (by omega) (by omega)
  have s1 := zcp ((qs c.y1).getD i 0) ((qs c.y0).getD i 0)
  have k2 := zkg ((qs c.y1).getD i 0 - (qs c.y0).getD i 0) c.h.q (by omega) (by omega) hh
  rw [show ((qs c.y1).getD i 0 - (qs c.y0).getD i 0) / c.h.q = riseQ c i from rfl] at k2
  have k3 := zhv (riseQ c i) ((qs c.f0).getD i 0) (by omega) (by omega)
  have s3 := zcp (riseQ c i) ((qs c.f0).getD i 0)
  have k4 := zkg (riseQ c i - (qs c.f0).getD i 0) c.h.q (by omega) (by omega) hh
  rw [show (riseQ c i - (qs c.f0).getD i 0) / c.h.q = firstQ c i from rfl] at k4
  have k5 := zhv ((qs c.f1).getD i 0) (riseQ c i) (by omega) (by omega)
  have s5 := zcp ((qs c.f1).getD i 0) (riseQ c i)
  have k6 := zkg ((qs c.f1).getD i 0 - riseQ c i) c.h.q (by omega) (by omega) hh
  rw [show ((qs c.f1).getD i 0 - riseQ c i) / c.h.q = lastQ c i from rfl] at k6
  have k7 := zhv (lastQ c i) (firstQ c i) (by omega) (by omega)
  have s7 := zcp (lastQ c i) (firstQ c i)
  have k8 := zkg (lastQ c i - firstQ c i) c.h.q (by omega) (by omega) hh
  rw [show (lastQ c i - firstQ c i) / c.h.q = secQ c i from rfl] at k8
  have k9 := zfg 0 (by omega)
  have k10 := zfg 1 (by omega)
  rw [show ((0 : Int) : Rat) = 0 from rfl] at k9
  rw [show ((1 : Int) : Rat) = 1 from rfl] at k10
  have k11 := zpr c.h.q (by omega)
  have hz := zev
  have ho := zjx
  have hn := zgg c.h.q
  have e1 : ∀ q ∈ [(qs c.y0).getD i 0, (qs c.f0).getD i 0, firstQ c i], szQ q ≤ 12 := by intro q hq; simp only [List.mem_cons, List.not_mem_nil, or_false] at hq; rcases hq with rfl | rfl | rfl <;> omega
  have e2 : ∀ q ∈ [0, 0, secQ c i], szQ q ≤ 27 := by intro q hq; simp only [List.mem_cons, List.not_mem_nil, or_false] at hq; rcases hq with rfl | rfl | rfl <;> omega
  have e3 : ∀ q ∈ [-c.h.q, 1], szQ q ≤ 27 := by intro q hq; simp only [List.mem_cons, List.not_mem_nil, or_false] at hq; rcases hq with rfl | rfl <;> omega
  have e4 := zng (zch (by decide) e2) (zch (by decide) e3) (by simp)
  have k12 := refPMul [0, 0, secQ c i] [-c.h.q, 1] 27 (by simp) (by simp) (by decide) (zch (by decide) e2) (zch (by decide) e3)
  have k13 := zgz [(qs c.y0).getD i 0, (qs c.f0).getD i 0, firstQ c i] (by simp)
  have t1 := zdt [(qs c.y0).getD i 0, (qs c.f0).getD i 0, firstQ c i]
  have t2 := zdt (mulL [0, 0, secQ c i] [-c.h.q, 1])
  rw [zhc] at t2
  simp only [List.length_cons, List.length_nil] at t1 t2
  have k14 := refPAdd (trimQ [(qs c.y0).getD i 0, (qs c.f0).getD i 0, firstQ c i]) (trimQ (mulL [0, 0, secQ c i] [-c.h.q, 1])) (by omega) (by omega)
    (fun k => Nat.le_trans (zfo (by decide) e1 k) (by decide)) (fun k => Nat.le_trans (zfo (by decide) e4 k) (by decide))
  rw [show trimQ (addL2 (trimQ [(qs c.y0).getD i 0, (qs c.f0).getD i 0, firstQ c i]) (trimQ (mulL [0, 0, secQ c i] [-c.h.q, 1]))) = cubQ c i from rfl] at k14
  clear hz ho hn e1 e2 e3 e4 t1 t2 s1 s3 s5 s7 a0 a1 a2 a3 ah zr zf zl zs hc hh
  have eq : ∀ q : Rat, frQ q = (RF.of q).pv := fun _ => rfl
  simp only [eq, rowQ, List.map_cons, List.map_nil] at *
  clear eq
  generalize RF.of ((qs c.y1).getD i 0 - (qs c.y0).getD i 0) = d1 at *
  generalize RF.of (riseQ c i - (qs c.f0).getD i 0) = d2 at *
  generalize RF.of ((qs c.f1).getD i 0 - riseQ c i) = d3 at *
  generalize RF.of (lastQ c i - firstQ c i) = d4 at *
  generalize (trimQ [(qs c.y0).getD i 0, (qs c.f0).getD i 0, firstQ c i]).map RF.of = p1 at *
  generalize (trimQ (mulL [0, 0, secQ c i] [-c.h.q, 1])).map RF.of = p2 at *
  generalize (cubQ c i).map RF.of = p3 at *
  generalize RF.of ((qs c.y0).getD i 0) = y0 at *
  generalize RF.of ((qs c.y1).getD i 0) = y1 at *
  generalize RF.of ((qs c.f0).getD i 0) = f0 at *
  generalize RF.of ((qs c.f1).getD i 0) = f1 at *
  generalize RF.of (riseQ c i) = rr at *
  generalize RF.of (firstQ c i) = ff at *
  generalize RF.of (lastQ c i) = ll at *
  generalize RF.of (secQ c i) = ss at *
  generalize RF.of (-c.h.q) = nh at *
  generalize RF.of 0 = z0 at *
  generalize RF.of 1 = z1 at *
  simp only [Spn.norm, Spn.pv, Spn.cells, row, hl] at *
  generalize RF.of c.h.q = hq at *
  generalize RF.of c.t.q = tq at *
  generalize rowC ((qs c.y0).map RF.of) = A0 at *
  generalize rowC ((qs c.y1).map RF.of) = A1 at *
  generalize rowC ((qs c.f0).map RF.of) = B0 at *
  generalize rowC ((qs c.f1).map RF.of) = B1 at *
  generalize rowC p1 = P1 at *
  generalize rowC p2 = P2 at *
  generalize rowC p3 = P3 at *
  simp only [RF.pv, RF.cells, rowC, List.flatMap_cons, List.flatMap_nil, List.length_cons, List.length_nil, List.append_nil, List.cons_append, List.nil_append, Nat.zero_add] at *
  refine CallOk.of_wl Tryz.func74 rfl rfl rfl (Nat.le_of_ble_eq_true rfl) ?_
  (repeat (first | with_reducible (first | refine WL.seq ?_ | refine WL.skip ?_ | refine WL.label ?_ | refine WL.block ?_ | refine WL.scope ?_ | refine WL.nilS ?_ | refine WL.reS ?_ | refine WL.exS ?_ | refine WL.nilB ?_ | refine WL.nilT ?_ | refine WL.exit ?_ | refine WL.ret ?_ | refine WL.exT ?_ | refine WL.exB ?_ | refine WL.exN rfl ?_ | refine WL.reT ?_ | refine WL.reB ?_) | ((first | refine WL.reg rfl ?_ | refine WL.regT zai rfl ?_); (conv => { arg 3; simp [prep, prep1] }); (repeat (first | (refine zae ?_ ?_; (focus (simp; done)); (conv => { arg 4; simp (disch := omega) [h0, h1, x0, x1, b0, b1, l0, l1] }); (first | (first | refine zaa ?_ | (refine zac ?_; (conv => { arg 5; simp }))) | ((first | refine zal true rfl rfl ⟨_, Tryz.func73, rfl, rfl⟩ ?_ | refine zal true rfl rfl ⟨_, Tryz.func115, rfl, rfl⟩ ?_); (conv => { arg 6; simp (disch := omega) [h0, h1, x0, x1, b0, b1, l0, l1] }); (first | refine zaf (k1) rfl ?_ | refine zaf (k2) rfl ?_); (conv => { arg 5; simp (disch := omega) [h0, h1, x0, x1, b0, b1, l0, l1] })))) | (refine zab rfl ?_ ?_; (focus (simp; done))))); with_reducible refine zad ?_; (first | refine ⟨rfl, ?_⟩ | refine ⟨by simp [quietB], by simp [quietU], ?_⟩ | skip)) | (refine WL.cond ?_; (conv => { arg 1; simp (disch := omega) [h0, h1, x0, x1, b0, b1, l0, l1] }); with_reducible (first | refine zaj ?_ | refine zak ?_ | refine zag (by omega) ?_ | refine zah (by omega) ?_))))
  clear k1 k2
  (repeat (first | with_reducible (first | refine WL.seq ?_ | refine WL.skip ?_ | refine WL.label ?_ | refine WL.block ?_ | refine WL.scope ?_ | refine WL.nilS ?_ | refine WL.reS ?_ | refine WL.exS ?_ | refine WL.nilB ?_ | refine WL.nilT ?_ | refine WL.exit ?_ | refine WL.ret ?_ | refine WL.exT ?_ | refine WL.exB ?_ | refine WL.exN rfl ?_ | refine WL.reT ?_ | refine WL.reB ?_) | ((first | refine WL.reg rfl ?_ | refine WL.regT zai rfl ?_); (conv => { arg 3; simp [prep, prep1] }); (repeat (first | (refine zae ?_ ?_; (focus (simp; done)); (conv => { arg 4; simp (disch := omega) [h2, x2, b2, l2] }); (first | (first | refine zaa ?_ | (refine zac ?_; (conv => { arg 5; simp }))) | ((first | refine zal true rfl rfl ⟨_, Tryz.func73, rfl, rfl⟩ ?_ | refine zal true rfl rfl ⟨_, Tryz.func115, rfl, rfl⟩ ?_); (conv => { arg 6; simp (disch := omega) [h2, x2, b2, l2] }); (first | refine zaf (k3) rfl ?_ | refine zaf (k4) rfl ?_); (conv => { arg 5; simp (disch := omega) [h2, x2, b2, l2] })))) | (refine zab rfl ?_ ?_; (focus (simp; done))))); with_reducible refine zad ?_; (first | refine ⟨rfl, ?_⟩ | refine ⟨by simp [quietB], by simp [quietU], ?_⟩ | skip)) | (refine WL.cond ?_; (conv => { arg 1; simp (disch := omega) [h2, x2, b2, l2] }); with_reducible (first | refine zaj ?_ | refine zak ?_ | refine zag (by omega) ?_ | refine zah (by omega) ?_))))
  clear k3 k4
  (repeat (first | with_reducible (first | refine WL.seq ?_ | refine WL.skip ?_ | refine WL.label ?_ | refine WL.block ?_ | refine WL.scope ?_ | refine WL.nilS ?_ | refine WL.reS ?_ | refine WL.exS ?_ | refine WL.nilB ?_ | refine WL.nilT ?_ | refine WL.exit ?_ | refine WL.ret ?_ | refine WL.exT ?_ | refine WL.exB ?_ | refine WL.exN rfl ?_ | refine WL.reT ?_ | refine WL.reB ?_) | ((first | refine WL.reg rfl ?_ | refine WL.regT zai rfl ?_); (conv => { arg 3; simp [prep, prep1] }); (repeat (first | (refine zae ?_ ?_; (focus (simp; done)); (conv => { arg 4; simp (disch := omega) [h3, x3, b3, l3] }); (first | (first | refine zaa ?_ | (refine zac ?_; (conv => { arg 5; simp }))) | ((first | refine zal true rfl rfl ⟨_, Tryz.func73, rfl, rfl⟩ ?_ | refine zal true rfl rfl ⟨_, Tryz.func115, rfl, rfl⟩ ?_); (conv => { arg 6; simp (disch := omega) [h3, x3, b3, l3] }); (first | refine zaf (k5) rfl ?_ | refine zaf (k6) rfl ?_); (conv => { arg 5; simp (disch := omega) [h3, x3, b3, l3] })))) | (refine zab rfl ?_ ?_; (focus (simp; done))))); with_reducible refine zad ?_; (first | refine ⟨rfl, ?_⟩ | refine ⟨by simp [quietB], by simp [quietU], ?_⟩ | skip)) | (refine WL.cond ?_; (conv => { arg 1; simp (disch := omega) [h3, x3, b3, l3] }); with_reducible (first | refine zaj ?_ | refine zak ?_ | refine zag (by omega) ?_ | refine zah (by omega) ?_))))
  clear k5 k6
  (repeat (first | with_reducible (first | refine WL.seq ?_ | refine WL.skip ?_ | refine WL.label ?_ | refine WL.block ?_ | refine WL.scope ?_ | refine WL.nilS ?_ | refine WL.reS ?_ | refine WL.exS ?_ | refine WL.nilB ?_ | refine WL.nilT ?_ | refine WL.exit ?_ | refine WL.ret ?_ | refine WL.exT ?_ | refine WL.exB ?_ | refine WL.exN rfl ?_ | refine WL.reT ?_ | refine WL.reB ?_) | ((first | refine WL.reg rfl ?_ | refine WL.regT zai rfl ?_); (conv => { arg 3; simp [prep, prep1] }); (repeat (first | (refine zae ?_ ?_; (focus (simp; done)); (conv => { arg 4; simp (disch := omega)  }); (first | (first | refine zaa ?_ | (refine zac ?_; (conv => { arg 5; simp }))) | ((first | refine zal true rfl rfl ⟨_, Tryz.func73, rfl, rfl⟩ ?_ | refine zal true rfl rfl ⟨_, Tryz.func115, rfl, rfl⟩ ?_ | refine zal true rfl rfl ⟨_, Tryz.func44, rfl, rfl⟩ ?_); (conv => { arg 6; simp (disch := omega)  }); (first | refine zaf (k7) rfl ?_ | refine zaf (k8) rfl ?_ | refine zaf (k9) rfl ?_); (conv => { arg 5; simp (disch := omega)  })))) | (refine zab rfl ?_ ?_; (focus (simp; done))))); with_reducible refine zad ?_; (first | refine ⟨rfl, ?_⟩ | refine ⟨by simp [quietB], by simp [quietU], ?_⟩ | skip)) | (refine WL.cond ?_; (conv => { arg 1; simp (disch := omega)  }); with_reducible (first | refine zaj ?_ | refine zak ?_ | refine zag (by omega) ?_ | refine zah (by omega) ?_))))
  clear k7 k8
  (repeat (first | with_reducible (first | refine WL.seq ?_ | refine WL.skip ?_ | refine WL.label ?_ | refine WL.block ?_ | refine WL.scope ?_ | refine WL.nilS ?_ | refine WL.reS ?_ | refine WL.exS ?_ | refine WL.nilB ?_ | refine WL.nilT ?_ | refine WL.exit ?_ | refine WL.ret ?_ | refine WL.exT ?_ | refine WL.exB ?_ | refine WL.exN rfl ?_ | refine WL.reT ?_ | refine WL.reB ?_) | ((first | refine WL.reg rfl ?_ | refine WL.regT zai rfl ?_); (conv => { arg 3; simp [prep, prep1] }); (repeat (first | (refine zae ?_ ?_; (focus (simp; done)); (conv => { arg 4; simp (disch := omega) [-litE, zqj, zlu, List.filterMap_cons, List.filterMap_nil, List.foldr_cons, List.foldr_nil] }); (first | (first | refine zaa ?_ | (refine zac ?_; (conv => { arg 5; simp }))) | ((first | refine zal true rfl rfl ⟨_, Tryz.func114, rfl, rfl⟩ ?_ | refine zal true rfl rfl ⟨_, Tryz.func44, rfl, rfl⟩ ?_ | refine zal true rfl rfl ⟨_, Tryz.func116, rfl, rfl⟩ ?_); (conv => { arg 6; simp (disch := omega) [-litE, zqj, zlu, List.filterMap_cons, List.filterMap_nil, List.foldr_cons, List.foldr_nil] }); (first | refine zaf (k11) rfl ?_ | refine zaf (k10) rfl ?_ | refine zaf (k12) rfl ?_); (conv => { arg 5; simp (disch := omega) [-litE, zqj, zlu, List.filterMap_cons, List.filterMap_nil, List.foldr_cons, List.foldr_nil] })))) | (refine zab rfl ?_ ?_; (focus (simp; done))))); with_reducible refine zad ?_; (first | refine ⟨rfl, ?_⟩ | refine ⟨by simp [quietB], by simp [quietU], ?_⟩ | skip)) | (refine WL.cond ?_; (conv => { arg 1; simp (disch := omega) [-litE, zqj, zlu, List.filterMap_cons, List.filterMap_nil, List.foldr_cons, List.foldr_nil] }); with_reducible (first | refine zaj ?_ | refine zak ?_ | refine zag (by omega) ?_ | refine zah (by omega) ?_))))
  clear k10 k11 k12
  refine WL.fwdG (fun s' => s'.frame 1 = .int .i64 i ∧ s'.frame 2 = .pt ⟨2, 0, 0⟩ 0 0 ∧ s'.frame 6 = .pt ⟨6, 0, 0⟩ 0 0 ∧ s'.frame 10 = .rd P2 p2.length ∧
    s'.store ⟨2, 0, 0⟩ = some ⟨0, true, false, [.bool tq.neg, wl tq.n, wl tq.d, .bool hq.neg, wl hq.n, wl hq.d, .rd A0 c.y0.length, .rd A1 c.y1.length, .rd B0 c.f0.length, .rd B1 c.f1.length]⟩ ∧
    s'.store ⟨6, 0, 0⟩ = some ⟨0, true, false, [.bool ff.neg, wl ff.n, wl ff.d]⟩) ?_ ?_
  · exact ⟨by simp, by simp, by simp, by simp, by simp, by simp⟩
  intro f σ g hg hJ
  simp only at hg
  subst hg
  obtain ⟨g1, g2, g6, g10, q2, q6⟩ := hJ
  simp only at g1 g2 g6 g10 q2 q6
  (repeat (first | with_reducible (first | refine WL.seq ?_ | refine WL.skip ?_ | refine WL.label ?_ | refine WL.block ?_ | refine WL.scope ?_ | refine WL.nilS ?_ | refine WL.reS ?_ | refine WL.exS ?_ | refine WL.nilB ?_ | refine WL.nilT ?_ | refine WL.exit ?_ | refine WL.ret ?_ | refine WL.exT ?_ | refine WL.exB ?_ | refine WL.exN rfl ?_ | refine WL.reT ?_ | refine WL.reB ?_) | ((first | refine WL.reg rfl ?_ | refine WL.regT zai rfl ?_); (conv => { arg 3; simp [prep, prep1] }); (repeat (first | (refine zae ?_ ?_; (focus (simp; done)); (conv => { arg 4; simp (disch := omega) [-litE, zlu, List.filterMap_cons, List.filterMap_nil, List.foldr_cons, List.foldr_nil, g1, g2, g6, g10, q2, q6, h0, h2, x0, x2, b0, b2, l0, l2] }); (first | (first | refine zaa ?_ | (refine zac ?_; (conv => { arg 5; simp }))) | ((first | refine zal true rfl rfl ⟨_, Tryz.func118, rfl, rfl⟩ ?_ | refine zal true rfl rfl ⟨_, Tryz.func117, rfl, rfl⟩ ?_); (conv => { arg 6; simp (disch := omega) [-litE, zlu, List.filterMap_cons, List.filterMap_nil, List.foldr_cons, List.foldr_nil, g1, g2, g6, g10, q2, q6, h0, h2, x0, x2, b0, b2, l0, l2] }); (first | refine zaf (k13) rfl ?_ | refine zaf (k14) rfl ?_); (conv => { arg 5; simp (disch := omega) [-litE, zlu, List.filterMap_cons, List.filterMap_nil, List.foldr_cons, List.foldr_nil, g1, g2, g6, g10, q2, q6, h0, h2, x0, x2, b0, b2, l0, l2] })))) | (refine zab rfl ?_ ?_; (focus (simp; done))))); with_reducible refine zad ?_; (first | refine ⟨rfl, ?_⟩ | refine ⟨by simp [quietB], by simp [quietU], ?_⟩ | skip)) | (refine WL.cond ?_; (conv => { arg 1; simp (disch := omega) [-litE, zlu, List.filterMap_cons, List.filterMap_nil, List.foldr_cons, List.foldr_nil, g1, g2, g6, g10, q2, q6, h0, h2, x0, x2, b0, b2, l0, l2] }); with_reducible (first | refine zaj ?_ | refine zak ?_ | refine zag (by omega) ?_ | refine zah (by omega) ?_))))
  refine ⟨[], ?_⟩
  simp (disch := omega) 
end Go.Proofs.YthgldcflcmlgpaaGreatDoorE
end
section
/- A span's cubic has at its ends the states, and its derivative the slopes. -/
set_option linter.unusedVariables false
set_option linter.unusedSimpArgs false
namespace Go.Proofs.YthgldcflcmlgpaaGreatDoorE
open Go.RowKit
theorem mix4 {n : Nat} {a b c d : List Rat} (w0 w1 w2 w3 : Rat) (ha : a.length = n) (hb : b.length = n) (hc : c.length = n) (hd : d.length = n) :
    (mixQ n [(w0, a), (w1, b), (w2, c), (w3, d)]).length = n ∧ ∀ (i : Nat) (h : i < (mixQ n [(w0, a), (w1, b), (w2, c), (w3, d)]).length) (h1 : i < a.length) (h2 : i < b.length) (h3 : i < c.length) (h4 : i < d.length),
      (mixQ n [(w0, a), (w1, b), (w2, c), (w3, d)])[i] = 0 + w0 * a[i] + w1 * b[i] + w2 * c[i] + w3 * d[i] := by
  refine ⟨by simp [mixQ, addRow, zeroQ]; omega, fun i h h1 h2 h3 h4 => ?_⟩
  simp [mixQ, addRow, zeroQ]
theorem zjg {n : Nat} {a b c d r : List Rat} (w0 w1 w2 w3 : Rat) (ha : a.length = n) (hb : b.length = n) (hc : c.length = n) (hd : d.length = n) (hr : r.length = n)
    (h : ∀ i (h1 : i < a.length) (h2 : i < b.length) (h3 : i < c.length) (h4 : i < d.length) (h5 : i < r.length), 0 + w0 * a[i] + w1 * b[i] + w2 * c[i] + w3 * d[i] = r[i]) : mixQ n [(w0, a), (w1, b), (w2, c), (w3, d)] = r := by
  obtain ⟨h1, h2⟩ := mix4 w0 w1 w2 w3 ha hb hc hd
  refine List.ext_getElem (by omega) fun i k1 k2 => ?_
  rw [h2 i k1 (by omega) (by omega) (by omega) (by omega)]
  exact h i _ _ _ _ k2
theorem zkd {q : Rat} (h : 0 < sgnQ q) : q ≠ 0 := by
  intro e; subst e; simp [sgnQ, sgn] at h
theorem x_zero (c : Spn) : c.x c.t.q = 0 := by
  unfold Spn.x
  have : c.t.q - c.t.q = 0 := by grind
  rw [this]; simp [Rat.div_def]
theorem x_one (c : Spn) (h : c.h.q ≠ 0) : c.x (c.t.q + c.h.q) = 1 := by
  unfold Spn.x; grind
theorem ends (c : Spn) (hr : c.right = true) : c.atQ c.t.q = qs c.y0 ∧ c.atQ (c.t.q + c.h.q) = qs c.y1 ∧ c.slopeQ c.t.q = qs c.f0 ∧ c.slopeQ (c.t.q + c.h.q) = qs c.f1 := by
  obtain ⟨r1, r2, r3, r4, r5⟩ := zcv hr
  have hh := zkd r1
  have l0 : (qs c.y0).length = c.y0.length := by simp [qs]
  have l1 : (qs c.y1).length = c.y0.length := by simp [qs, r3]
  have l2 : (qs c.f0).length = c.y0.length := by simp [qs, r4]
  have l3 : (qs c.f1).length = c.y0.length := by simp [qs, r5]
  unfold Spn.atQ Spn.slopeQ
  rw [x_zero, x_one c hh]
  refine ⟨zjg _ _ _ _ l0 l1 l2 l3 l0 fun i h1 h2 h3 h4 h5 => ?_, zjg _ _ _ _ l0 l1 l2 l3 l1 fun i h1 h2 h3 h4 h5 => ?_, zjg _ _ _ _ l0 l1 l2 l3 l2 fun i h1 h2 h3 h4 h5 => ?_, zjg _ _ _ _ l0 l1 l2 l3 l3 fun i h1 h2 h3 h4 h5 => ?_⟩ <;>
    simp only [prodQ, List.foldl_cons, List.foldl_nil, Rat.div_def] <;> grind
end Go.Proofs.YthgldcflcmlgpaaGreatDoorE
end
section
/- The document's cubic, at a moment, is the program's; so is its derivative (plain). -/
set_option linter.unusedVariables false
set_option linter.unusedSimpArgs false
namespace Go.Proofs.YthgldcflcmlgpaaGreatDoorE
open Go.RowKit
theorem eval5 (l : List Rat) (h : l.length ≤ 5) (x : Rat) : evalQ l x = l.getD 0 0 + l.getD 1 0 * x + l.getD 2 0 * x * x + l.getD 3 0 * x * x * x + l.getD 4 0 * x * x * x * x := by
  match l, h with
  | [], _ => simp [evalQ]; try grind
  | [a], _ => simp [evalQ]; try grind
  | [a, b], _ => simp [evalQ]; try grind
  | [a, b, c], _ => simp [evalQ]; try grind
  | [a, b, c, d], _ => simp [evalQ]; try grind
  | [a, b, c, d, e], _ => simp [evalQ]; try grind
theorem diff5 (l : List Rat) (h : l.length ≤ 5) (x : Rat) : evalQ (diffL l) x = l.getD 1 0 + 2 * l.getD 2 0 * x + 3 * l.getD 3 0 * x * x + 4 * l.getD 4 0 * x * x * x := by
  match l, h with
  | [], _ => simp [evalQ, diffL]; try grind
  | [a], _ => simp [evalQ, diffL]; try grind
  | [a, b], _ => simp [evalQ, diffL, List.range_succ]; try grind
  | [a, b, c], _ => simp [evalQ, diffL, List.range_succ]; try grind
  | [a, b, c, d], _ => simp [evalQ, diffL, List.range_succ]; try grind
  | [a, b, c, d, e], _ => simp [evalQ, diffL, List.range_succ]; try grind
theorem addL2_getD (a b : List Rat) (i : Nat) : (addL2 a b).getD i 0 = a.getD i 0 + b.getD i 0 := by
  by_cases h : i < max a.length b.length
  · rw [List.getD_eq_getElem?_getD, List.getElem?_eq_getElem (by rw [zeu]; exact h)]
    simp [addL2]
  · rw [List.getD_eq_getElem?_getD, List.getElem?_eq_none (by rw [zeu]; omega), List.getD_eq_getElem?_getD, List.getD_eq_getElem?_getD, List.getElem?_eq_none (by omega), List.getElem?_eq_none (by omega)]
    simp [Rat.add_zero]
theorem bend_at (s n : Rat) : mulL [0, 0, s] [n, 1] = [0, 0, s * n, s, 0] := by
  simp [mulL, mulS, List.range_succ]
  try grind
theorem zof (c : Spn) (i : Nat) : (cubQ c i).getD 0 0 = (qs c.y0).getD i 0 ∧ (cubQ c i).getD 1 0 = (qs c.f0).getD i 0 ∧ (cubQ c i).getD 2 0 = firstQ c i + secQ c i * -c.h.q ∧ (cubQ c i).getD 3 0 = secQ c i ∧ (cubQ c i).getD 4 0 = 0 := by
  unfold cubQ
  simp only [zit, addL2_getD, bend_at]
  refine ⟨?_, ?_, ?_, ?_, ?_⟩ <;> simp [Rat.add_zero, Rat.zero_add]
theorem hermite (y0 y1 f0 f1 h x r f l e : Rat) (h1 : r * h = y1 - y0) (h2 : f * h = r - f0) (h3 : l * h = f1 - r) (h4 : e * h = l - f) :
    y0 + f0 * (h * x) + (f + e * -h) * (h * x) * (h * x) + e * (h * x) * (h * x) * (h * x) + 0 * (h * x) * (h * x) * (h * x) * (h * x) =
    0 + (1 * (1 + (-1) * x) * (1 + (-1) * x) * (1 + 2 * x)) * y0 + (1 * x * x * (3 + (-2) * x)) * y1 + (1 * h * x * (1 + (-1) * x) * (1 + (-1) * x)) * f0 + (1 * h * x * x * (-(1 + (-1) * x))) * f1 := by
  have e1 : f * h * h = y1 - y0 - f0 * h := by grind
  have e2 : e * h * h = f1 + f0 - 2 * r := by grind
  have e3 : e * h * h * h = (f1 + f0) * h - 2 * (y1 - y0) := by grind
  have g : y0 + f0 * (h * x) + (f + e * -h) * (h * x) * (h * x) + e * (h * x) * (h * x) * (h * x) + 0 * (h * x) * (h * x) * (h * x) * (h * x) = y0 + f0 * h * x + (f * h * h - e * h * h * h) * x * x + (e * h * h * h) * x * x * x := by grind
  rw [g, e1, e3]; grind
theorem hermite' (y0 y1 f0 f1 h x r f l e w : Rat) (h1 : r * h = y1 - y0) (h2 : f * h = r - f0) (h3 : l * h = f1 - r) (h4 : e * h = l - f) (hw : w * h = 6 * x * (1 + (-1) * x)) :
    f0 + 2 * (f + e * -h) * (h * x) + 3 * e * (h * x) * (h * x) + 4 * 0 * (h * x) * (h * x) * (h * x) =
    0 + (-w) * y0 + w * y1 + (1 * (1 + (-1) * x) * (1 + (-3) * x)) * f0 + (1 * x * (-2 + 3 * x)) * f1 := by
  have e2 : e * h * h = f1 + f0 - 2 * r := by grind
  have g : f0 + 2 * (f + e * -h) * (h * x) + 3 * e * (h * x) * (h * x) + 4 * 0 * (h * x) * (h * x) * (h * x) = f0 + 2 * (f * h - e * h * h) * x + 3 * (e * h * h) * x * x := by grind
  have g2 : (-w) * y0 + w * y1 = (w * h) * r := by grind
  rw [g, h2, e2, Rat.add_assoc 0, g2, hw]; grind
def atR (c : Spn) (slope : Bool) (s : Rat) : List Rat := (List.range c.y0.length).map fun i => evalQ (if slope then trimQ (diffL (cubQ c i)) else cubQ c i) (s - c.t.q)
theorem zdg (a h : Rat) (hh : h ≠ 0) : a / h * h = a := by rw [Rat.div_def]; grind
theorem atR_at (c : Spn) (s : Rat) (hc : c.ok 2) (hr : c.right = true) : atR c false s = c.atQ s := by
  obtain ⟨r1, r2, r3, r4, r5⟩ := zcv hr
  have hh := zkd r1
  have l0 : (qs c.y0).length = c.y0.length := by simp [qs]
  have l1 : (qs c.y1).length = c.y0.length := by simp [qs, r3]
  have l2 : (qs c.f0).length = c.y0.length := by simp [qs, r4]
  have l3 : (qs c.f1).length = c.y0.length := by simp [qs, r5]
  unfold Spn.atQ
  symm
  refine zjg _ _ _ _ l0 l1 l2 l3 (by simp [atR]) fun i h1 h2 h3 h4 h5 => ?_
  have hx : s - c.t.q = c.h.q * c.x s := by unfold Spn.x; rw [Rat.mul_comm, zdg _ _ hh]
  obtain ⟨k0, k1, k2, k3, k4⟩ := zof c i
  have g0 : (qs c.y0).getD i 0 = (qs c.y0)[i] := by rw [List.getD_eq_getElem?_getD, List.getElem?_eq_getElem h1]; rfl
  have g1 : (qs c.y1).getD i 0 = (qs c.y1)[i] := by rw [List.getD_eq_getElem?_getD, List.getElem?_eq_getElem h2]; rfl
  have g2 : (qs c.f0).getD i 0 = (qs c.f0)[i] := by rw [List.getD_eq_getElem?_getD, List.getElem?_eq_getElem h3]; rfl
  have g3 : (qs c.f1).getD i 0 = (qs c.f1)[i] := by rw [List.getD_eq_getElem?_getD, List.getElem?_eq_getElem h4]; rfl
  have e : (atR c false s)[i] = evalQ (cubQ c i) (s - c.t.q) := by simp [atR]
  rw [e, eval5 _ (zil c hc i).1, k0, k1, k2, k3, k4, hx, g0, g2]
  rw [hermite (qs c.y0)[i] (qs c.y1)[i] (qs c.f0)[i] (qs c.f1)[i] c.h.q (c.x s) (riseQ c i) (firstQ c i) (lastQ c i) (secQ c i) (by unfold riseQ; rw [zdg _ _ hh, g0, g1]) (by unfold firstQ; rw [zdg _ _ hh, g2]) (by unfold lastQ; rw [zdg _ _ hh, g3]) (by unfold secQ; rw [zdg _ _ hh])]
  simp only [prodQ, List.foldl_cons, List.foldl_nil]
theorem atR_slope (c : Spn) (s : Rat) (hc : c.ok 2) (hr : c.right = true) : atR c true s = c.slopeQ s := by
  obtain ⟨r1, r2, r3, r4, r5⟩ := zcv hr
  have hh := zkd r1
  have l0 : (qs c.y0).length = c.y0.length := by simp [qs]
  have l1 : (qs c.y1).length = c.y0.length := by simp [qs, r3]
  have l2 : (qs c.f0).length = c.y0.length := by simp [qs, r4]
  have l3 : (qs c.f1).length = c.y0.length := by simp [qs, r5]
  unfold Spn.slopeQ
  symm
  refine zjg _ _ _ _ l0 l1 l2 l3 (by simp [atR]) fun i h1 h2 h3 h4 h5 => ?_
  have hx : s - c.t.q = c.h.q * c.x s := by unfold Spn.x; rw [Rat.mul_comm, zdg _ _ hh]
  obtain ⟨k0, k1, k2, k3, k4⟩ := zof c i
  have g0 : (qs c.y0).getD i 0 = (qs c.y0)[i] := by rw [List.getD_eq_getElem?_getD, List.getElem?_eq_getElem h1]; rfl
  have g1 : (qs c.y1).getD i 0 = (qs c.y1)[i] := by rw [List.getD_eq_getElem?_getD, List.getElem?_eq_getElem h2]; rfl
  have g2 : (qs c.f0).getD i 0 = (qs c.f0)[i] := by rw [List.getD_eq_getElem?_getD, List.getElem?_eq_getElem h3]; rfl
  have g3 : (qs c.f1).getD i 0 = (qs c.f1)[i] := by rw [List.getD_eq_getElem?_getD, List.getElem?_eq_getElem h4]; rfl
  have e : (atR c true s)[i] = evalQ (trimQ (diffL (cubQ c i))) (s - c.t.q) := by simp [atR]
  rw [e, evalQ_trim, diff5 _ (zil c hc i).1, k1, k2, k3, k4, hx, g2]
  rw [hermite' (qs c.y0)[i] (qs c.y1)[i] (qs c.f0)[i] (qs c.f1)[i] c.h.q (c.x s) (riseQ c i) (firstQ c i) (lastQ c i) (secQ c i) (prodQ [6, c.x s, 1 + (-1) * c.x s] / c.h.q) (by unfold riseQ; rw [zdg _ _ hh, g0, g1]) (by unfold firstQ; rw [zdg _ _ hh, g2]) (by unfold lastQ; rw [zdg _ _ hh, g3]) (by unfold secQ; rw [zdg _ _ hh]) (by rw [zdg _ _ hh]; simp only [prodQ, List.foldl_cons, List.foldl_nil]; grind)]
  simp only [prodQ, List.foldl_cons, List.foldl_nil]
end Go.Proofs.YthgldcflcmlgpaaGreatDoorE
end
section
/- The document's span: each component's value, or its derivative's. -/
set_option linter.unusedVariables false
set_option linter.unusedSimpArgs false
namespace Go.Proofs.YthgldcflcmlgpaaGreatDoorE
open Go.RowKit
set_option maxRecDepth 100000
attribute [local simp] List.getElem?_cons_zero List.getElem?_cons_succ List.getElem?_nil wrap_i64 stOf st0 effF effC evalV evalL zfd zcr pv_t pv_c pv_g pv_f ofConst binV binI lenV foldV mx2 mn2 unV convV extractV idxV indexV fieldAddrV fieldV partV sliceV boundsV loadL live storeE appendE srcV litE makeE IntKind.bits copyE boxE allocE flatParts flatCs flatC allParts cellsOf solid leafB fillL frzL buildV fillP placeS eqFl eqCell St.eff St.put wrs callE renP renA renC renI nid newL renB noEff endK endR resA resL resV expP expA expC expN expL expBs expB idx thenQ blockQ wantK if_pos if_neg wrap_u32 zas beqI bneI w32 wl zar Int.natCast_inj
theorem zog (c : Spn) (hc : c.ok 2) (i : Nat) : ∀ q ∈ cubQ c i, szQ q ≤ 200 := fun q hq => by
  obtain ⟨k, hk, rfl⟩ := List.getElem_of_mem hq
  have := (zil c hc i).2 k
  rwa [List.getD_eq_getElem?_getD, List.getElem?_eq_getElem hk] at this
theorem zkk (c : Spn) (hc : c.ok 2) (slope : Bool) (i : Nat) : (if slope then trimQ (diffL (cubQ c i)) else cubQ c i).length ≤ 5 ∧ ∀ q ∈ (if slope then trimQ (diffL (cubQ c i)) else cubQ c i), szQ q ≤ 201 := by
  have h1 := (zil c hc i).1
  have h2 := zog c hc i
  cases slope
  · exact ⟨by simpa using h1, fun q hq => Nat.le_trans (h2 q (by simpa using hq)) (by decide)⟩
  · refine ⟨?_, fun q hq => szQ_diff (cubQ c i) 200 h2 (by omega) q (List.mem_of_mem_take (by simpa [trimQ] using hq))⟩
    have h3 := zdt (diffL (cubQ c i))
    rw [zik] at h3
    simp only [if_true]
    omega
theorem zgp (c : Spn) (b : Bool) (s : Rat) : (atR c b s).length = c.y0.length := by simp [atR]
theorem atR_take (c : Spn) (b : Bool) (s : Rat) (i : Nat) (h : i < c.y0.length) : (atR c b s).take (i + 1) = (atR c b s).take i ++ [evalQ (if b then trimQ (diffL (cubQ c i)) else cubQ c i) (s - c.t.q)] := by
  rw [List.take_succ_eq_append_getElem (by rw [zgp]; exact h)]
  simp [atR]
theorem zoj (c : Spn) (hc : c.ok 2) (b : Bool) (s : Rat) (hs : szQ s ≤ 2) : ∀ q ∈ atR c b s, szQ q ≤ 1073741824 := fun q hq => by
  simp only [atR, List.mem_map, List.mem_range] at hq
  obtain ⟨i, _, rfl⟩ := hq
  obtain ⟨h1, h2⟩ := zkk c hc b i
  have h3 := zcp s c.t.q
  have h4 := hc.t.sz (by decide)
  have h5 := zjz 201 (s - c.t.q) (by omega) _ h2
  have h6 : (if b then trimQ (diffL (cubQ c i)) else cubQ c i).length * (2 * 201 + 1) ≤ 5 * (2 * 201 + 1) := Nat.mul_le_mul_right _ h1
  omega
set_option maxHeartbeats 2000000 in
theorem zpo (c : Spn) (s : Rat) (slope : Bool) (hc : c.ok 2) (hs : szQ s ≤ 2) (hr : c.right = true) :
    CallOk Tryz.prog 23 [c.norm.pv, frQ s, .bool slope] [] (rowQ (atR c slope s)) [] := by
  obtain ⟨r1, r2, r3, r4, r5⟩ := zcv hr
  have hh := zkd r1
  have zt := hc.t.sz (by decide)
  have k1 := zhv s c.t.q (by omega) (by omega)
  have zx := zcp s c.t.q
  have kC := fun i (hi : i < c.y0.length) => refCubic c i hc hh hi (by omega) (by omega) (by omega)
  have kD := fun i => refPDiff (cubQ c i) (fun y hy => Nat.le_trans (zog c hc i y hy) (by decide)) (by have := (zil c hc i).1; omega)
  have kE := fun i => refPEval (if slope then trimQ (diffL (cubQ c i)) else cubQ c i) (s - c.t.q) 201 (by decide) (by omega) (zkk c hc slope i).2 (by
    have h6 : ((if slope then trimQ (diffL (cubQ c i)) else cubQ c i).length + 1) * (2 * 201 + 1) ≤ 6 * (2 * 201 + 1) := Nat.mul_le_mul_right _ (by have := (zkk c hc slope i).1; omega)
    omega)
  have htk := atR_take c slope s
  have hl := zgp c slope s
  have hlC := zap ((atR c slope s).map RF.of)
  rw [List.length_map, hl] at hlC
  have erc : rowQ (atR c slope s) = .rd (rowC ((atR c slope s).map RF.of)) c.y0.length := by simp [rowQ, row, hl]
  rw [erc]
  have hlen0 : ((qs c.y0).map RF.of).length = c.y0.length := by simp [qs]
  replace k1 : CallOk _ _ [(RF.of s).pv, (RF.of c.t.q).pv] _ (RF.of (s - c.t.q)).pv _ := k1
  rw [show frQ s = (RF.of s).pv from rfl]
  generalize hxe : RF.of (s - c.t.q) = xx at *
  have kE' : ∀ i, CallOk Tryz.prog 76 [rowQ (if slope then trimQ (diffL (cubQ c i)) else cubQ c i), xx.pv] [] (RF.of (evalQ (if slope then trimQ (diffL (cubQ c i)) else cubQ c i) (s - c.t.q))).pv [] := fun i => by rw [← hxe]; exact kE i
  clear kE hc zt zx hr r1 r3 r4 r5 hh hxe
  generalize hn : c.y0.length = n at *
  generalize hAt : atR c slope s = AT at *
  simp only [Spn.norm, Spn.pv, Spn.cells, row, hlen0] at *
  generalize RF.of s = ss at *
  generalize RF.of c.t.q = tq at *
  generalize RF.of c.h.q = hq at *
  generalize ((qs c.y1).map RF.of).length = n1 at *
  generalize ((qs c.f0).map RF.of).length = n2 at *
  generalize ((qs c.f1).map RF.of).length = n3 at *
  generalize rowC ((qs c.y0).map RF.of) = A0 at *
  generalize rowC ((qs c.y1).map RF.of) = A1 at *
  generalize rowC ((qs c.f0).map RF.of) = B0 at *
  generalize rowC ((qs c.f1).map RF.of) = B1 at *
  refine CallOk.of_wl Tryz.func23 rfl rfl rfl (Nat.le_of_ble_eq_true rfl) ?_
  (repeat (first | with_reducible (first | refine WL.seq ?_ | refine WL.skip ?_ | refine WL.label ?_ | refine WL.block ?_ | refine WL.scope ?_ | refine WL.nilS ?_ | refine WL.reS ?_ | refine WL.exS ?_ | refine WL.nilB ?_ | refine WL.nilT ?_ | refine WL.exit ?_ | refine WL.ret ?_ | refine WL.exT ?_ | refine WL.exB ?_ | refine WL.exN rfl ?_ | refine WL.reT ?_ | refine WL.reB ?_) | ((first | refine WL.reg rfl ?_ | refine WL.regT zai rfl ?_); (conv => { arg 3; simp [prep, prep1] }); (repeat (first | (refine zae ?_ ?_; (focus (simp; done)); (conv => { arg 4; simp (disch := omega) [RF.pv, RF.cells] }); (first | (first | refine zaa ?_ | (refine zac ?_; (conv => { arg 5; simp }))) | (refine zal true rfl rfl ⟨_, Tryz.func73, rfl, rfl⟩ ?_; (conv => { arg 6; simp (disch := omega) [RF.pv, RF.cells] }); refine zaf (k1) rfl ?_; (conv => { arg 5; simp (disch := omega) [RF.pv, RF.cells] })))) | (refine zab rfl ?_ ?_; (focus (simp; done))))); with_reducible refine zad ?_; (first | refine ⟨rfl, ?_⟩ | refine ⟨by simp [quietB], by simp [quietU], ?_⟩ | skip)) | (refine WL.cond ?_; (conv => { arg 1; simp (disch := omega) [RF.pv, RF.cells] }); with_reducible (first | refine zaj ?_ | refine zak ?_ | refine zag (by omega) ?_ | refine zah (by omega) ?_))))
  refine WL.loop (fun m s => ∃ i : Nat, m = n - i ∧ i ≤ n ∧ s.frame 2 = .bool slope ∧ s.frame 3 = .pt ⟨3, 0, 0⟩ 0 0 ∧ s.frame 8 = .pt ⟨8, 0, 0⟩ 0 0 ∧ s.frame 9 = .int .i64 i ∧
    s.store ⟨3, 0, 0⟩ = some ⟨0, true, false, [.bool tq.neg, wl tq.n, wl tq.d, .bool hq.neg, wl hq.n, wl hq.d, .rd A0 n, .rd A1 n1, .rd B0 n2, .rd B1 n3]⟩ ∧ s.store ⟨8, 0, 0⟩ = some ⟨0, true, false, [.bool xx.neg, wl xx.n, wl xx.d]⟩ ∧
    ((i = 0 ∧ s.frame 7 = .nilS) ∨ ∃ G v, s.frame 7 = .sl ⟨33, G, 0⟩ v 0 i 3 ∧ s.store ⟨33, G, 0⟩ = some ⟨v, true, true, rowC ((AT.take i).map RF.of)⟩)) n ?_ ?_
  · exact ⟨0, by omega, by omega, by simp, by simp, by simp, by simp, by simp, by simp, .inl ⟨rfl, by simp⟩⟩
  rintro m ⟨f, σ, g⟩ ⟨i, rfl, hi, h2, h3, h8, h9, q3, q8, h7⟩
  simp only at h2 h3 h8 h9 q3 q8 h7
  by_cases hi' : i < n
  · have c1 := kC i hi'
    have c2 := kD i
    have c3 := kE' i
    have htk2 : rowC ((AT.take (i + 1)).map RF.of) = rowC ((AT.take i).map RF.of) ++ (RF.of (evalQ (if slope then trimQ (diffL (cubQ c i)) else cubQ c i) (s - c.t.q))).cells := by
      rw [htk i hi', List.map_append, zcm]; simp [rowC]
    generalize RF.of (evalQ (if slope then trimQ (diffL (cubQ c i)) else cubQ c i) (s - c.t.q)) = w at *
    have hlt := zap ((AT.take i).map RF.of)
    have hlt2 : ((AT.take i).map RF.of).length = i := by simp [hl]; omega
    rw [hlt2] at hlt
    generalize hA1 : rowC ((AT.take (i + 1)).map RF.of) = R1 at *
    generalize hA0 : rowC ((AT.take i).map RF.of) = R at *
    have htk1 : R.take (i * 3) = R := List.take_of_length_le (by omega)
    clear kC kD kE' htk
    cases slope
    · simp only [Bool.false_eq_true, if_false] at c3
      simp only [rowQ, row] at c1 c3
      generalize ((cubQ c i).map RF.of).length = pl at *
      generalize rowC ((cubQ c i).map RF.of) = PP at *
      rcases h7 with ⟨h70, h7⟩ | ⟨G, v, h7, hst⟩
      · have hA00 : R = [] := by rw [← hA0, h70]; simp [rowC]
        rw [hA00, List.nil_append] at htk2
        (repeat (first | with_reducible (first | refine WL.seq ?_ | refine WL.skip ?_ | refine WL.label ?_ | refine WL.block ?_ | refine WL.scope ?_ | refine WL.nilS ?_ | refine WL.reS ?_ | refine WL.exS ?_ | refine WL.nilB ?_ | refine WL.nilT ?_ | refine WL.exit ?_ | refine WL.ret ?_ | refine WL.exT ?_ | refine WL.exB ?_ | refine WL.exN rfl ?_ | refine WL.reT ?_ | refine WL.reB ?_) | ((first | refine WL.reg rfl ?_ | refine WL.regT zai rfl ?_); (conv => { arg 3; simp [prep, prep1] }); (repeat (first | (refine zae ?_ ?_; (focus (simp; done)); (conv => { arg 4; simp (disch := omega) [h2, h3, h7, h8, h9, q3, q8, hi', RF.pv, RF.cells] }); (first | (first | refine zaa ?_ | (refine zac ?_; (conv => { arg 5; simp }))) | ((first | refine zal true rfl rfl ⟨_, Tryz.func74, rfl, rfl⟩ ?_ | refine zal true rfl rfl ⟨_, Tryz.func76, rfl, rfl⟩ ?_); (conv => { arg 6; simp (disch := omega) [h2, h3, h7, h8, h9, q3, q8, hi', RF.pv, RF.cells] }); (first | refine zaf (c1) rfl ?_ | refine zaf (c3) rfl ?_); (conv => { arg 5; simp (disch := omega) [h2, h3, h7, h8, h9, q3, q8, hi', RF.pv, RF.cells] })))) | (refine zab rfl ?_ ?_; (focus (simp; done))))); with_reducible refine zad ?_; (first | refine ⟨rfl, ?_⟩ | refine ⟨by simp [quietB], by simp [quietU], ?_⟩ | skip)) | (refine WL.cond ?_; (conv => { arg 1; simp (disch := omega) [h2, h3, h7, h8, h9, q3, q8, hi', RF.pv, RF.cells] }); with_reducible (first | refine zaj ?_ | refine zak ?_ | refine zag (by omega) ?_ | refine zah (by omega) ?_))))
        exact ⟨n - (i + 1), by omega, i + 1, rfl, by omega, by simp [h2], by simp [h3], by simp [h8], by simp, by simp [q3], by simp [q8], .inr ⟨g 33, 0, by simp [h70], by rw [hA1, htk2]; simp [RF.cells]⟩⟩
      · (repeat (first | with_reducible (first | refine WL.seq ?_ | refine WL.skip ?_ | refine WL.label ?_ | refine WL.block ?_ | refine WL.scope ?_ | refine WL.nilS ?_ | refine WL.reS ?_ | refine WL.exS ?_ | refine WL.nilB ?_ | refine WL.nilT ?_ | refine WL.exit ?_ | refine WL.ret ?_ | refine WL.exT ?_ | refine WL.exB ?_ | refine WL.exN rfl ?_ | refine WL.reT ?_ | refine WL.reB ?_) | ((first | refine WL.reg rfl ?_ | refine WL.regT zai rfl ?_); (conv => { arg 3; simp [prep, prep1] }); (repeat (first | (refine zae ?_ ?_; (focus (simp; done)); (conv => { arg 4; simp (disch := omega) [h2, h3, h7, hst, h8, h9, q3, q8, hi', hlt, htk1, RF.pv, RF.cells] }); (first | (first | refine zaa ?_ | (refine zac ?_; (conv => { arg 5; simp }))) | ((first | refine zal true rfl rfl ⟨_, Tryz.func74, rfl, rfl⟩ ?_ | refine zal true rfl rfl ⟨_, Tryz.func76, rfl, rfl⟩ ?_); (conv => { arg 6; simp (disch := omega) [h2, h3, h7, hst, h8, h9, q3, q8, hi', hlt, htk1, RF.pv, RF.cells] }); (first | refine zaf (c1) rfl ?_ | refine zaf (c3) rfl ?_); (conv => { arg 5; simp (disch := omega) [h2, h3, h7, hst, h8, h9, q3, q8, hi', hlt, htk1, RF.pv, RF.cells] })))) | (refine zab rfl ?_ ?_; (focus (simp; done))))); with_reducible refine zad ?_; (first | refine ⟨rfl, ?_⟩ | refine ⟨by simp [quietB], by simp [quietU], ?_⟩ | skip)) | (refine WL.cond ?_; (conv => { arg 1; simp (disch := omega) [h2, h3, h7, hst, h8, h9, q3, q8, hi', hlt, htk1, RF.pv, RF.cells] }); with_reducible (first | refine zaj ?_ | refine zak ?_ | refine zag (by omega) ?_ | refine zah (by omega) ?_))))
        exact ⟨n - (i + 1), by omega, i + 1, rfl, by omega, by simp [h2], by simp [h3], by simp [h8], by simp, by simp [q3], by simp [q8], .inr ⟨G, v + 1, by simp, by rw [hA1, htk2]; simp [RF.cells]⟩⟩
    · simp only [if_true] at c3
      simp only [rowQ, row] at c1 c2 c3
      generalize ((cubQ c i).map RF.of).length = pl at *
      generalize rowC ((cubQ c i).map RF.of) = PP at *
      generalize ((trimQ (diffL (cubQ c i))).map RF.of).length = pl2 at *
      generalize rowC ((trimQ (diffL (cubQ c i))).map RF.of) = PP2 at *
      rcases h7 with ⟨h70, h7⟩ | ⟨G, v, h7, hst⟩
      · have hA00 : R = [] := by rw [← hA0, h70]; simp [rowC]
        rw [hA00, List.nil_append] at htk2
        (repeat (first | with_reducible (first | refine WL.seq ?_ | refine WL.skip ?_ | refine WL.label ?_ | refine WL.block ?_ | refine WL.scope ?_ | refine WL.nilS ?_ | refine WL.reS ?_ | refine WL.exS ?_ | refine WL.nilB ?_ | refine WL.nilT ?_ | refine WL.exit ?_ | refine WL.ret ?_ | refine WL.exT ?_ | refine WL.exB ?_ | refine WL.exN rfl ?_ | refine WL.reT ?_ | refine WL.reB ?_) | ((first | refine WL.reg rfl ?_ | refine WL.regT zai rfl ?_); (conv => { arg 3; simp [prep, prep1] }); (repeat (first | (refine zae ?_ ?_; (focus (simp; done)); (conv => { arg 4; simp (disch := omega) [h2, h3, h7, h8, h9, q3, q8, hi', RF.pv, RF.cells] }); (first | (first | refine zaa ?_ | (refine zac ?_; (conv => { arg 5; simp }))) | ((first | refine zal true rfl rfl ⟨_, Tryz.func74, rfl, rfl⟩ ?_ | refine zal true rfl rfl ⟨_, Tryz.func75, rfl, rfl⟩ ?_ | refine zal true rfl rfl ⟨_, Tryz.func76, rfl, rfl⟩ ?_); (conv => { arg 6; simp (disch := omega) [h2, h3, h7, h8, h9, q3, q8, hi', RF.pv, RF.cells] }); (first | refine zaf (c1) rfl ?_ | refine zaf (c2) rfl ?_ | refine zaf (c3) rfl ?_); (conv => { arg 5; simp (disch := omega) [h2, h3, h7, h8, h9, q3, q8, hi', RF.pv, RF.cells] })))) | (refine zab rfl ?_ ?_; (focus (simp; done))))); with_reducible refine zad ?_; (first | refine ⟨rfl, ?_⟩ | refine ⟨by simp [quietB], by simp [quietU], ?_⟩ | skip)) | (refine WL.cond ?_; (conv => { arg 1; simp (disch := omega) [h2, h3, h7, h8, h9, q3, q8, hi', RF.pv, RF.cells] }); with_reducible (first | refine zaj ?_ | refine zak ?_ | refine zag (by omega) ?_ | refine zah (by omega) ?_))))
        exact ⟨n - (i + 1), by omega, i + 1, rfl, by omega, by simp [h2], by simp [h3], by simp [h8], by simp, by simp [q3], by simp [q8], .inr ⟨g 33, 0, by simp [h70], by rw [hA1, htk2]; simp [RF.cells]⟩⟩
      · (repeat (first | with_reducible (first | refine WL.seq ?_ | refine WL.skip ?_ | refine WL.label ?_ | refine WL.block ?_ | refine WL.scope ?_ | refine WL.nilS ?_ | refine WL.reS ?_ | refine WL.exS ?_ | refine WL.nilB ?_ | refine WL.nilT ?_ | refine WL.exit ?_ | refine WL.ret ?_ | refine WL.exT ?_ | refine WL.exB ?_ | refine WL.exN rfl ?_ | refine WL.reT ?_ | refine WL.reB ?_) | ((first | refine WL.reg rfl ?_ | refine WL.regT zai rfl ?_); (conv => { arg 3; simp [prep, prep1] }); (repeat (first | (refine zae ?_ ?_; (focus (simp; done)); (conv => { arg 4; simp (disch := omega) [h2, h3, h7, hst, h8, h9, q3, q8, hi', hlt, htk1, RF.pv, RF.cells] }); (first | (first | refine zaa ?_ | (refine zac ?_; (conv => { arg 5; simp }))) | ((first | refine zal true rfl rfl ⟨_, Tryz.func74, rfl, rfl⟩ ?_ | refine zal true rfl rfl ⟨_, Tryz.func75, rfl, rfl⟩ ?_ | refine zal true rfl rfl ⟨_, Tryz.func76, rfl, rfl⟩ ?_); (conv => { arg 6; simp (disch := omega) [h2, h3, h7, hst, h8, h9, q3, q8, hi', hlt, htk1, RF.pv, RF.cells] }); (first | refine zaf (c1) rfl ?_ | refine zaf (c2) rfl ?_ | refine zaf (c3) rfl ?_); (conv => { arg 5; simp (disch := omega) [h2, h3, h7, hst, h8, h9, q3, q8, hi', hlt, htk1, RF.pv, RF.cells] })))) | (refine zab rfl ?_ ?_; (focus (simp; done))))); with_reducible refine zad ?_; (first | refine ⟨rfl, ?_⟩ | refine ⟨by simp [quietB], by simp [quietU], ?_⟩ | skip)) | (refine WL.cond ?_; (conv => { arg 1; simp (disch := omega) [h2, h3, h7, hst, h8, h9, q3, q8, hi', hlt, htk1, RF.pv, RF.cells] }); with_reducible (first | refine zaj ?_ | refine zak ?_ | refine zag (by omega) ?_ | refine zah (by omega) ?_))))
        exact ⟨n - (i + 1), by omega, i + 1, rfl, by omega, by simp [h2], by simp [h3], by simp [h8], by simp, by simp [q3], by simp [q8], .inr ⟨G, v + 1, by simp, by rw [hA1, htk2]; simp [RF.cells]⟩⟩
  · have hia : i = n := by omega
    subst hia
    rw [List.take_of_length_le (by omega)] at h7
    rcases h7 with ⟨h70, h7⟩ | ⟨G, v, h7, hst⟩
    · have hd : AT = [] := List.eq_nil_of_length_eq_zero (by omega)
      rw [hd]
      have h9' : f 9 = .int .i64 0 := by rw [h9, h70]; rfl
      rw [h70] at q3 ⊢
      (repeat (first | with_reducible (first | refine WL.seq ?_ | refine WL.skip ?_ | refine WL.label ?_ | refine WL.block ?_ | refine WL.scope ?_ | refine WL.nilS ?_ | refine WL.reS ?_ | refine WL.exS ?_ | refine WL.nilB ?_ | refine WL.nilT ?_ | refine WL.exit ?_ | refine WL.ret ?_ | refine WL.exT ?_ | refine WL.exB ?_ | refine WL.exN rfl ?_ | refine WL.reT ?_ | refine WL.reB ?_) | ((first | refine WL.reg rfl ?_ | refine WL.regT zai rfl ?_); (conv => { arg 3; simp [prep, prep1] }); (repeat (first | (refine zae ?_ ?_; (focus (simp; done)); (conv => { arg 4; simp (disch := omega) [h3, h7, h9', q3] }); (first | (first | refine zaa ?_ | (refine zac ?_; (conv => { arg 5; simp }))))) | (refine zab rfl ?_ ?_; (focus (simp; done))))); with_reducible refine zad ?_; (first | refine ⟨rfl, ?_⟩ | refine ⟨by simp [quietB], by simp [quietU], ?_⟩ | skip)) | (refine WL.cond ?_; (conv => { arg 1; simp (disch := omega) [h3, h7, h9', q3] }); with_reducible (first | refine zaj ?_ | refine zak ?_ | refine zag (by omega) ?_ | refine zah (by omega) ?_))))
      refine ⟨[], ?_⟩
      simp (disch := omega) [rowC]
    · have htk1 : (rowC (AT.map RF.of)).take (i * 3) = rowC (AT.map RF.of) := List.take_of_length_le (by omega)
      generalize rowC (AT.map RF.of) = A at *
      (repeat (first | with_reducible (first | refine WL.seq ?_ | refine WL.skip ?_ | refine WL.label ?_ | refine WL.block ?_ | refine WL.scope ?_ | refine WL.nilS ?_ | refine WL.reS ?_ | refine WL.exS ?_ | refine WL.nilB ?_ | refine WL.nilT ?_ | refine WL.exit ?_ | refine WL.ret ?_ | refine WL.exT ?_ | refine WL.exB ?_ | refine WL.exN rfl ?_ | refine WL.reT ?_ | refine WL.reB ?_) | ((first | refine WL.reg rfl ?_ | refine WL.regT zai rfl ?_); (conv => { arg 3; simp [prep, prep1] }); (repeat (first | (refine zae ?_ ?_; (focus (simp; done)); (conv => { arg 4; simp (disch := omega) [h3, h7, hst, h9, q3] }); (first | (first | refine zaa ?_ | (refine zac ?_; (conv => { arg 5; simp }))))) | (refine zab rfl ?_ ?_; (focus (simp; done))))); with_reducible refine zad ?_; (first | refine ⟨rfl, ?_⟩ | refine ⟨by simp [quietB], by simp [quietU], ?_⟩ | skip)) | (refine WL.cond ?_; (conv => { arg 1; simp (disch := omega) [h3, h7, hst, h9, q3] }); with_reducible (first | refine zaj ?_ | refine zak ?_ | refine zag (by omega) ?_ | refine zah (by omega) ?_))))
      refine ⟨[], ?_⟩
      simp (disch := omega) [hst, hlC, htk1]
end Go.Proofs.YthgldcflcmlgpaaGreatDoorE
end
