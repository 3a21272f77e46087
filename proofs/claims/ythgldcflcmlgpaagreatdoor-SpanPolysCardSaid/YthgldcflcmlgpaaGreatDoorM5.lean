import Derived.Test.YthgldcflcmlgpaaGreatDoorRows
import Derived.WalkKit
import Derived.ProofKit
import Derived.OpenShut
import Derived.Carry
import Derived.Test.YthgldcflcmlgpaaGreatDoorM0
import Derived.Test.YthgldcflcmlgpaaGreatDoorM1
import Derived.Test.YthgldcflcmlgpaaGreatDoorM2
import Derived.Test.YthgldcflcmlgpaaGreatDoorM3
import Derived.Test.YthgldcflcmlgpaaGreatDoorM4

section
/- The law SpanPolys: it answers true. -/
-- x4
set_option linter.unusedVariables false
set_option linter.unusedSimpArgs false
namespace Go.Proofs.YthgldcflcmlgpaaGreatDoorE
open Go.RowKit
set_option maxRecDepth 100000
attribute [local simp] List.getElem?_cons_zero List.getElem?_cons_succ List.getElem?_nil wrap_i64 stOf st0 effF effC evalV evalL upd_n updI_n pv_t pv_c pv_g pv_f ofConst binV binI lenV foldV mx2 mn2 unV convV extractV idxV indexV fieldAddrV fieldV partV sliceV boundsV loadL live storeE appendE srcV litE makeE IntKind.bits copyE boxE allocE flatParts flatCs flatC allParts cellsOf solid leafB fillL frzL buildV fillP placeS eqFl eqCell St.eff St.put wrs callE renP renA renC renI nid newL renB noEff endK endR resA resL resV expP expA expC expN expL expBs expB idx thenQ blockQ wantK wrap_u32 wrap_u64_in beqI bneI w32 wl fdiv_pos Int.natCast_inj effG
attribute [local simp ↓] effG effC evalV evalL pv_t pv_c pv_g pv_f upd_n updI_n live

theorem szQ_abs (q : Rat) : szQ (absQ q) = szQ q := by unfold absQ; split <;> simp [szQ_neg]
theorem sgn_abs_pos {q : Rat} (h : ¬ sgnQ (absQ q) = 0) : 0 < sgnQ (absQ q) := by
  have hn : 0 ≤ (absQ q).num := by
    have : ¬ (absQ q).num < 0 := fun h => by
      have := (num_neg_iff _).1 h
      unfold absQ at this; split at this <;> grind
    omega
  unfold sgnQ sgn at *
  by_cases h0 : (absQ q).num = 0
  · rw [if_pos h0] at h; exact absurd rfl h
  · rw [if_neg h0, if_neg (by omega)]; decide
/-- The span that the law makes. -/
def polySpn (p : List Rat) (t : RF) (h : Rat) : Spn :=
  ⟨t, RF.of h, [RF.of (evalQ p t.q)], [RF.of (evalQ p (t.q + h))], [RF.of (evalQ (trimQ (diffL p)) t.q)], [RF.of (evalQ (trimQ (diffL p)) (t.q + h))]⟩
theorem polySpn_at (p : List Rat) (t : RF) (h s : Rat) (hl : p.length ≤ 4) (hh : h ≠ 0) : (polySpn p t h).atQ s = [evalQ p s] := by
  unfold Spn.atQ Spn.x polySpn
  simp only [qs, List.map_cons, List.map_nil, RF.of_q, List.length_cons, List.length_nil, Nat.zero_add]
  exact polyAt p hl t.q h s hh _ rfl
theorem polySpn_slope (p : List Rat) (t : RF) (h s : Rat) (hl : p.length ≤ 4) (hh : h ≠ 0) : (polySpn p t h).slopeQ s = [evalQ (trimQ (diffL p)) s] := by
  unfold Spn.slopeQ Spn.x polySpn
  simp only [qs, List.map_cons, List.map_nil, RF.of_q, List.length_cons, List.length_nil, Nat.zero_add]
  exact polySlope p hl t.q h s hh _ rfl
theorem same1 (q : Rat) (h : szQ q ≤ 65536) : CallOk Tryz.prog 31 [row [RF.of q], row [RF.of q]] [] (.bool true) [] := by
  have := rowSame [RF.of q] [RF.of q] (by intro x hx; simp at hx; subst hx; exact RF.of_ok (Nat.le_trans h (by decide))) (by intro x hx; simp at hx; subst hx; exact RF.of_ok (Nat.le_trans h (by decide))) (by simp) (by simp)
  rwa [decide_eq_true rfl] at this

def cells3 (a b c : RF) : List PV := [.bool a.neg, wl a.n, wl a.d, .bool b.neg, wl b.n, wl b.d, .bool c.neg, wl c.n, wl c.d]
set_option maxHeartbeats 4000000 in
theorem polysLong (a : List RF) (t h s : RF) (hla : a.length ≤ 2513169434843) (hL : longR a 4 2 || longF t 2 || longF h 2 || longF s 2) : CallOk Tryz.prog 4 [row a, .agg (cells3 t h s)] [] (.bool true) [] := by
  have k1 := ref11Long a 4 2 (by decide) (by decide) hla
  have k2 := ref09Long t 2 (by decide)
  have k3 := ref09Long h 2 (by decide)
  have k4 := ref09Long s 2 (by decide)
  have kw := worksOk
  generalize longR a 4 2 = b1 at *
  generalize longF t 2 = b2 at *
  generalize longF h 2 = b3 at *
  generalize longF s 2 = b4 at *
  simp only [row, RF.pv, RF.cells, cells3] at *
  cases b1
  · cases b2
    · cases b3
      · cases b4
        · simp at hL
        · refine CallOk.of_wl Tryz.func4 rfl rfl rfl (Nat.le_of_ble_eq_true rfl) ?_
          (repeat (first | with_reducible refine WL.seq ?_ | with_reducible refine WL.skip ?_ | with_reducible refine WL.label ?_ | with_reducible refine WL.block ?_ | with_reducible refine WL.scope ?_ | with_reducible refine WL.nilS ?_ | with_reducible refine WL.reS ?_ | with_reducible refine WL.exS ?_ | with_reducible refine WL.nilB ?_ | with_reducible refine WL.nilT ?_ | with_reducible refine WL.exit ?_ | with_reducible refine WL.ret ?_ | with_reducible refine WL.exT ?_ | with_reducible refine WL.exB ?_ | with_reducible refine WL.exN rfl ?_ | with_reducible refine WL.reT ?_ | with_reducible refine WL.reB ?_ | ((first | refine WL.reg rfl ?_ | refine WL.regT mixed rfl ?_); (conv => { arg 3; simp [prep, prep1] }); (repeat (first | (refine runK_call ⟨_, Tryz.func24, rfl, rfl⟩ ?_ ?_; (first | rfl | focus (simp; done)); (conv => { arg 6; simp (disch := omega) [if_pos, if_neg] }); (first | refine callV0 (k1) rfl ?_ | (refine callV1 (k1) rfl ?_; (conv => { arg 1; simp }); refine frz1_go ?_))) | (refine runK_call ⟨_, Tryz.func12, rfl, rfl⟩ ?_ ?_; (first | rfl | focus (simp; done)); (conv => { arg 6; simp (disch := omega) [if_pos, if_neg] }); (first | refine callV0 (k2) rfl ?_ | (refine callV1 (k2) rfl ?_; (conv => { arg 1; simp }); refine frz1_go ?_))) | (refine runK_call ⟨_, Tryz.func12, rfl, rfl⟩ ?_ ?_; (first | rfl | focus (simp; done)); (conv => { arg 6; simp (disch := omega) [if_pos, if_neg] }); (first | refine callV0 (k3) rfl ?_ | (refine callV1 (k3) rfl ?_; (conv => { arg 1; simp }); refine frz1_go ?_))) | (refine runK_call ⟨_, Tryz.func12, rfl, rfl⟩ ?_ ?_; (first | rfl | focus (simp; done)); (conv => { arg 6; simp (disch := omega) [if_pos, if_neg] }); (first | refine callV0 (k4) rfl ?_ | (refine callV1 (k4) rfl ?_; (conv => { arg 1; simp }); refine frz1_go ?_))) | (refine runK_call ⟨_, Tryz.func13, rfl, rfl⟩ ?_ ?_; (first | rfl | focus (simp; done)); (conv => { arg 6; simp (disch := omega) [if_pos, if_neg] }); (first | refine callV0 (kw) rfl ?_ | (refine callV1 (kw) rfl ?_; (conv => { arg 1; simp }); refine frz1_go ?_))) | (refine runK_goM ?_ ?_; (first | rfl | focus (simp; done)); (conv => { arg 4; simp (disch := omega) [if_pos, if_neg] }); (first | refine contK_val ?_ | refine contK_w1 ?_ | (refine contK_w1b ?_; (conv => { arg 5; arg 3; simp })) | refine contK_n1 ?_ | (refine contK_go ?_; (conv => { arg 5; simp })))) | (refine skip_val rfl ?_ ?_; (focus (simp; done))))); with_reducible refine runK_nil ?_; (first | refine ⟨rfl, ?_⟩ | refine ⟨by simp [quietB], by simp [quietU], ?_⟩ | skip)) | (refine WL.cond ?_; (conv => { arg 1; simp (disch := omega) [if_pos, if_neg] }); (first | with_reducible refine condT ?_ | with_reducible refine condF ?_ | with_reducible refine condPT (by omega) ?_ | with_reducible refine condPF (by omega) ?_))))
          refine ⟨[], ?_⟩
          simp (disch := omega) [if_pos, if_neg]
      · refine CallOk.of_wl Tryz.func4 rfl rfl rfl (Nat.le_of_ble_eq_true rfl) ?_
        (repeat (first | with_reducible refine WL.seq ?_ | with_reducible refine WL.skip ?_ | with_reducible refine WL.label ?_ | with_reducible refine WL.block ?_ | with_reducible refine WL.scope ?_ | with_reducible refine WL.nilS ?_ | with_reducible refine WL.reS ?_ | with_reducible refine WL.exS ?_ | with_reducible refine WL.nilB ?_ | with_reducible refine WL.nilT ?_ | with_reducible refine WL.exit ?_ | with_reducible refine WL.ret ?_ | with_reducible refine WL.exT ?_ | with_reducible refine WL.exB ?_ | with_reducible refine WL.exN rfl ?_ | with_reducible refine WL.reT ?_ | with_reducible refine WL.reB ?_ | ((first | refine WL.reg rfl ?_ | refine WL.regT mixed rfl ?_); (conv => { arg 3; simp [prep, prep1] }); (repeat (first | (refine runK_call ⟨_, Tryz.func24, rfl, rfl⟩ ?_ ?_; (first | rfl | focus (simp; done)); (conv => { arg 6; simp (disch := omega) [if_pos, if_neg] }); (first | refine callV0 (k1) rfl ?_ | (refine callV1 (k1) rfl ?_; (conv => { arg 1; simp }); refine frz1_go ?_))) | (refine runK_call ⟨_, Tryz.func12, rfl, rfl⟩ ?_ ?_; (first | rfl | focus (simp; done)); (conv => { arg 6; simp (disch := omega) [if_pos, if_neg] }); (first | refine callV0 (k2) rfl ?_ | (refine callV1 (k2) rfl ?_; (conv => { arg 1; simp }); refine frz1_go ?_))) | (refine runK_call ⟨_, Tryz.func12, rfl, rfl⟩ ?_ ?_; (first | rfl | focus (simp; done)); (conv => { arg 6; simp (disch := omega) [if_pos, if_neg] }); (first | refine callV0 (k3) rfl ?_ | (refine callV1 (k3) rfl ?_; (conv => { arg 1; simp }); refine frz1_go ?_))) | (refine runK_call ⟨_, Tryz.func13, rfl, rfl⟩ ?_ ?_; (first | rfl | focus (simp; done)); (conv => { arg 6; simp (disch := omega) [if_pos, if_neg] }); (first | refine callV0 (kw) rfl ?_ | (refine callV1 (kw) rfl ?_; (conv => { arg 1; simp }); refine frz1_go ?_))) | (refine runK_goM ?_ ?_; (first | rfl | focus (simp; done)); (conv => { arg 4; simp (disch := omega) [if_pos, if_neg] }); (first | refine contK_val ?_ | refine contK_w1 ?_ | (refine contK_w1b ?_; (conv => { arg 5; arg 3; simp })) | refine contK_n1 ?_ | (refine contK_go ?_; (conv => { arg 5; simp })))) | (refine skip_val rfl ?_ ?_; (focus (simp; done))))); with_reducible refine runK_nil ?_; (first | refine ⟨rfl, ?_⟩ | refine ⟨by simp [quietB], by simp [quietU], ?_⟩ | skip)) | (refine WL.cond ?_; (conv => { arg 1; simp (disch := omega) [if_pos, if_neg] }); (first | with_reducible refine condT ?_ | with_reducible refine condF ?_ | with_reducible refine condPT (by omega) ?_ | with_reducible refine condPF (by omega) ?_))))
        refine ⟨[], ?_⟩
        simp (disch := omega) [if_pos, if_neg]
    · refine CallOk.of_wl Tryz.func4 rfl rfl rfl (Nat.le_of_ble_eq_true rfl) ?_
      (repeat (first | with_reducible refine WL.seq ?_ | with_reducible refine WL.skip ?_ | with_reducible refine WL.label ?_ | with_reducible refine WL.block ?_ | with_reducible refine WL.scope ?_ | with_reducible refine WL.nilS ?_ | with_reducible refine WL.reS ?_ | with_reducible refine WL.exS ?_ | with_reducible refine WL.nilB ?_ | with_reducible refine WL.nilT ?_ | with_reducible refine WL.exit ?_ | with_reducible refine WL.ret ?_ | with_reducible refine WL.exT ?_ | with_reducible refine WL.exB ?_ | with_reducible refine WL.exN rfl ?_ | with_reducible refine WL.reT ?_ | with_reducible refine WL.reB ?_ | ((first | refine WL.reg rfl ?_ | refine WL.regT mixed rfl ?_); (conv => { arg 3; simp [prep, prep1] }); (repeat (first | (refine runK_call ⟨_, Tryz.func24, rfl, rfl⟩ ?_ ?_; (first | rfl | focus (simp; done)); (conv => { arg 6; simp (disch := omega) [if_pos, if_neg] }); (first | refine callV0 (k1) rfl ?_ | (refine callV1 (k1) rfl ?_; (conv => { arg 1; simp }); refine frz1_go ?_))) | (refine runK_call ⟨_, Tryz.func12, rfl, rfl⟩ ?_ ?_; (first | rfl | focus (simp; done)); (conv => { arg 6; simp (disch := omega) [if_pos, if_neg] }); (first | refine callV0 (k2) rfl ?_ | (refine callV1 (k2) rfl ?_; (conv => { arg 1; simp }); refine frz1_go ?_))) | (refine runK_call ⟨_, Tryz.func13, rfl, rfl⟩ ?_ ?_; (first | rfl | focus (simp; done)); (conv => { arg 6; simp (disch := omega) [if_pos, if_neg] }); (first | refine callV0 (kw) rfl ?_ | (refine callV1 (kw) rfl ?_; (conv => { arg 1; simp }); refine frz1_go ?_))) | (refine runK_goM ?_ ?_; (first | rfl | focus (simp; done)); (conv => { arg 4; simp (disch := omega) [if_pos, if_neg] }); (first | refine contK_val ?_ | refine contK_w1 ?_ | (refine contK_w1b ?_; (conv => { arg 5; arg 3; simp })) | refine contK_n1 ?_ | (refine contK_go ?_; (conv => { arg 5; simp })))) | (refine skip_val rfl ?_ ?_; (focus (simp; done))))); with_reducible refine runK_nil ?_; (first | refine ⟨rfl, ?_⟩ | refine ⟨by simp [quietB], by simp [quietU], ?_⟩ | skip)) | (refine WL.cond ?_; (conv => { arg 1; simp (disch := omega) [if_pos, if_neg] }); (first | with_reducible refine condT ?_ | with_reducible refine condF ?_ | with_reducible refine condPT (by omega) ?_ | with_reducible refine condPF (by omega) ?_))))
      refine ⟨[], ?_⟩
      simp (disch := omega) [if_pos, if_neg]
  · refine CallOk.of_wl Tryz.func4 rfl rfl rfl (Nat.le_of_ble_eq_true rfl) ?_
    (repeat (first | with_reducible refine WL.seq ?_ | with_reducible refine WL.skip ?_ | with_reducible refine WL.label ?_ | with_reducible refine WL.block ?_ | with_reducible refine WL.scope ?_ | with_reducible refine WL.nilS ?_ | with_reducible refine WL.reS ?_ | with_reducible refine WL.exS ?_ | with_reducible refine WL.nilB ?_ | with_reducible refine WL.nilT ?_ | with_reducible refine WL.exit ?_ | with_reducible refine WL.ret ?_ | with_reducible refine WL.exT ?_ | with_reducible refine WL.exB ?_ | with_reducible refine WL.exN rfl ?_ | with_reducible refine WL.reT ?_ | with_reducible refine WL.reB ?_ | ((first | refine WL.reg rfl ?_ | refine WL.regT mixed rfl ?_); (conv => { arg 3; simp [prep, prep1] }); (repeat (first | (refine runK_call ⟨_, Tryz.func24, rfl, rfl⟩ ?_ ?_; (first | rfl | focus (simp; done)); (conv => { arg 6; simp (disch := omega) [if_pos, if_neg] }); (first | refine callV0 (k1) rfl ?_ | (refine callV1 (k1) rfl ?_; (conv => { arg 1; simp }); refine frz1_go ?_))) | (refine runK_call ⟨_, Tryz.func13, rfl, rfl⟩ ?_ ?_; (first | rfl | focus (simp; done)); (conv => { arg 6; simp (disch := omega) [if_pos, if_neg] }); (first | refine callV0 (kw) rfl ?_ | (refine callV1 (kw) rfl ?_; (conv => { arg 1; simp }); refine frz1_go ?_))) | (refine runK_goM ?_ ?_; (first | rfl | focus (simp; done)); (conv => { arg 4; simp (disch := omega) [if_pos, if_neg] }); (first | refine contK_val ?_ | refine contK_w1 ?_ | (refine contK_w1b ?_; (conv => { arg 5; arg 3; simp })) | refine contK_n1 ?_ | (refine contK_go ?_; (conv => { arg 5; simp })))) | (refine skip_val rfl ?_ ?_; (focus (simp; done))))); with_reducible refine runK_nil ?_; (first | refine ⟨rfl, ?_⟩ | refine ⟨by simp [quietB], by simp [quietU], ?_⟩ | skip)) | (refine WL.cond ?_; (conv => { arg 1; simp (disch := omega) [if_pos, if_neg] }); (first | with_reducible refine condT ?_ | with_reducible refine condF ?_ | with_reducible refine condPT (by omega) ?_ | with_reducible refine condPF (by omega) ?_))))
    refine ⟨[], ?_⟩
    simp (disch := omega) [if_pos, if_neg]

theorem trim_sub (l : List Rat) : ∀ q ∈ trimQ l, q ∈ l := fun q h => List.mem_of_mem_take h
theorem trim_len (l : List Rat) : (trimQ l).length ≤ l.length := by unfold trimQ; rw [List.length_take]; omega

set_option maxHeartbeats 2000000 in
theorem polysGo (a : List RF) (t h s : RF) (wa : ∀ x ∈ a, x.wfR) (wt : t.wfR) (wh : h.wfR) (ws_ : s.wfR) (hL1 : longR a 4 2 = false) (hL2 : longF t 2 = false) (hL3 : longF h 2 = false) (hL4 : longF s 2 = false) :
    CallOk Tryz.prog 4 [row a, .agg (cells3 t h s)] [] (.bool true) [] := by
  obtain ⟨hla, oa⟩ := longR_ok hL1 wa
  have ot := longF_no hL2 wt
  have oh := longF_no hL3 wh
  have os := longF_no hL4 ws_
  have k1 := ref11Long a 4 2 (by decide) (by decide) (by omega)
  have k2 := ref09Long t 2 (by decide)
  have k3 := ref09Long h 2 (by decide)
  have k4 := ref09Long s 2 (by decide)
  rw [hL1] at k1
  rw [hL2] at k2
  rw [hL3] at k3
  rw [hL4] at k4
  have kw := worksOk
  have kT := law11To a (by omega)
  have kD := polyDiff a (fun x hx => (oa x hx).mono (by decide)) (by omega)
  have kt := law09To t
  have kh := law09To h
  have ks := law09To s
  have kA := rfAbs (oh.mono (by decide))
  have zh := oh.sz (by decide)
  have zt := ot.sz (by decide)
  have zs := os.sz (by decide)
  have zH : szQ (absQ h.q) ≤ 2 := by rw [szQ_abs]; omega
  have kS := rfSign (a := RF.of (absQ h.q)) (RF.of_ok (by omega))
  rw [RF.of_q] at kS
  by_cases h0 : sgnQ (absQ h.q) = 0
  · rw [h0] at kS
    have kA : CallOk _ _ _ _ (RF.of (absQ h.q)).pv _ := kA
    generalize RF.of (absQ h.q) = H at *
    unfold rowQ at kD
    generalize (trimQ (diffL (qs a))).map RF.of = d at *
    clear oa ot oh os
    simp only [row, RF.pv, RF.cells, cells3] at *
    refine CallOk.of_wl Tryz.func4 rfl rfl rfl (Nat.le_of_ble_eq_true rfl) ?_
    (repeat (first | with_reducible refine WL.seq ?_ | with_reducible refine WL.skip ?_ | with_reducible refine WL.label ?_ | with_reducible refine WL.block ?_ | with_reducible refine WL.scope ?_ | with_reducible refine WL.nilS ?_ | with_reducible refine WL.reS ?_ | with_reducible refine WL.exS ?_ | with_reducible refine WL.nilB ?_ | with_reducible refine WL.nilT ?_ | with_reducible refine WL.exit ?_ | with_reducible refine WL.ret ?_ | with_reducible refine WL.exT ?_ | with_reducible refine WL.exB ?_ | with_reducible refine WL.exN rfl ?_ | with_reducible refine WL.reT ?_ | with_reducible refine WL.reB ?_ | ((first | refine WL.reg rfl ?_ | refine WL.regT mixed rfl ?_); (conv => { arg 3; simp [prep, prep1] }); (repeat (first | (refine runK_call ⟨_, Tryz.func24, rfl, rfl⟩ ?_ ?_; (first | rfl | focus (simp; done)); (conv => { arg 6; simp (disch := omega) [if_pos, if_neg] }); (first | refine callV0 (k1) rfl ?_ | (refine callV1 (k1) rfl ?_; (conv => { arg 1; simp }); refine frz1_go ?_))) | (refine runK_call ⟨_, Tryz.func12, rfl, rfl⟩ ?_ ?_; (first | rfl | focus (simp; done)); (conv => { arg 6; simp (disch := omega) [if_pos, if_neg] }); (first | refine callV0 (k2) rfl ?_ | (refine callV1 (k2) rfl ?_; (conv => { arg 1; simp }); refine frz1_go ?_))) | (refine runK_call ⟨_, Tryz.func12, rfl, rfl⟩ ?_ ?_; (first | rfl | focus (simp; done)); (conv => { arg 6; simp (disch := omega) [if_pos, if_neg] }); (first | refine callV0 (k3) rfl ?_ | (refine callV1 (k3) rfl ?_; (conv => { arg 1; simp }); refine frz1_go ?_))) | (refine runK_call ⟨_, Tryz.func12, rfl, rfl⟩ ?_ ?_; (first | rfl | focus (simp; done)); (conv => { arg 6; simp (disch := omega) [if_pos, if_neg] }); (first | refine callV0 (k4) rfl ?_ | (refine callV1 (k4) rfl ?_; (conv => { arg 1; simp }); refine frz1_go ?_))) | (refine runK_call ⟨_, Tryz.func25, rfl, rfl⟩ ?_ ?_; (first | rfl | focus (simp; done)); (conv => { arg 6; simp (disch := omega) [if_pos, if_neg] }); (first | refine callV0 (kT) rfl ?_ | (refine callV1 (kT) rfl ?_; (conv => { arg 1; simp }); refine frz1_go ?_))) | (refine runK_call ⟨_, Tryz.func26, rfl, rfl⟩ ?_ ?_; (first | rfl | focus (simp; done)); (conv => { arg 6; simp (disch := omega) [if_pos, if_neg] }); (first | refine callV0 (kD) rfl ?_ | (refine callV1 (kD) rfl ?_; (conv => { arg 1; simp }); refine frz1_go ?_))) | (refine runK_call ⟨_, Tryz.func16, rfl, rfl⟩ ?_ ?_; (first | rfl | focus (simp; done)); (conv => { arg 6; simp (disch := omega) [if_pos, if_neg] }); (first | refine callV0 (kt) rfl ?_ | (refine callV1 (kt) rfl ?_; (conv => { arg 1; simp }); refine frz1_go ?_))) | (refine runK_call ⟨_, Tryz.func16, rfl, rfl⟩ ?_ ?_; (first | rfl | focus (simp; done)); (conv => { arg 6; simp (disch := omega) [if_pos, if_neg] }); (first | refine callV0 (kh) rfl ?_ | (refine callV1 (kh) rfl ?_; (conv => { arg 1; simp }); refine frz1_go ?_))) | (refine runK_call ⟨_, Tryz.func16, rfl, rfl⟩ ?_ ?_; (first | rfl | focus (simp; done)); (conv => { arg 6; simp (disch := omega) [if_pos, if_neg] }); (first | refine callV0 (ks) rfl ?_ | (refine callV1 (ks) rfl ?_; (conv => { arg 1; simp }); refine frz1_go ?_))) | (refine runK_call ⟨_, Tryz.func27, rfl, rfl⟩ ?_ ?_; (first | rfl | focus (simp; done)); (conv => { arg 6; simp (disch := omega) [if_pos, if_neg] }); (first | refine callV0 (kA) rfl ?_ | (refine callV1 (kA) rfl ?_; (conv => { arg 1; simp }); refine frz1_go ?_))) | (refine runK_call ⟨_, Tryz.func28, rfl, rfl⟩ ?_ ?_; (first | rfl | focus (simp; done)); (conv => { arg 6; simp (disch := omega) [if_pos, if_neg] }); (first | refine callV0 (kS) rfl ?_ | (refine callV1 (kS) rfl ?_; (conv => { arg 1; simp }); refine frz1_go ?_))) | (refine runK_call ⟨_, Tryz.func13, rfl, rfl⟩ ?_ ?_; (first | rfl | focus (simp; done)); (conv => { arg 6; simp (disch := omega) [if_pos, if_neg] }); (first | refine callV0 (kw) rfl ?_ | (refine callV1 (kw) rfl ?_; (conv => { arg 1; simp }); refine frz1_go ?_))) | (refine runK_goM ?_ ?_; (first | rfl | focus (simp; done)); (conv => { arg 4; simp (disch := omega) [if_pos, if_neg] }); (first | refine contK_val ?_ | refine contK_w1 ?_ | (refine contK_w1b ?_; (conv => { arg 5; arg 3; simp })) | refine contK_n1 ?_ | (refine contK_go ?_; (conv => { arg 5; simp })))) | (refine skip_val rfl ?_ ?_; (focus (simp; done))))); with_reducible refine runK_nil ?_; (first | refine ⟨rfl, ?_⟩ | refine ⟨by simp [quietB], by simp [quietU], ?_⟩ | skip)) | (refine WL.cond ?_; (conv => { arg 1; simp (disch := omega) [if_pos, if_neg] }); (first | with_reducible refine condT ?_ | with_reducible refine condF ?_ | with_reducible refine condPT (by omega) ?_ | with_reducible refine condPF (by omega) ?_))))
    refine ⟨[], ?_⟩
    simp (disch := omega) [if_pos, if_neg]
  have hpos := sgn_abs_pos h0
  have hne : absQ h.q ≠ 0 := sgnQ_ne hpos
  have hzE := szQ_add t.q (absQ h.q)
  have kE := rfAdd (a := t) (b := RF.of (absQ h.q)) (ot.mono (by decide)) (RF.of_ok (by omega))
  rw [RF.of_q] at kE
  have qa : ∀ q ∈ qs a, szQ q ≤ 8 := fun q hq => by
    obtain ⟨x, hx, rfl⟩ := List.mem_map.1 hq
    exact Nat.le_trans ((oa x hx).sz (by decide)) (by decide)
  have qaL : (qs a).length ≤ 4 := by simpa [qs] using hla
  have qd : ∀ q ∈ trimQ (diffL (qs a)), szQ q ≤ 9 := fun q hq => szQ_diff (qs a) 8 qa (by omega) q (trim_sub _ q hq)
  have qdL : (trimQ (diffL (qs a))).length ≤ 4 := by
    have h1 := trim_len (diffL (qs a))
    have h2 := diffL_len (qs a)
    omega
  have odL : ∀ y ∈ (trimQ (diffL (qs a))).map RF.of, y.ok 9 := fun y hy => by
    obtain ⟨q, hq, rfl⟩ := List.mem_map.1 hy
    exact RF.of_ok (qd q hq)
  have oE : (RF.of (t.q + absQ h.q)).ok 9 := RF.of_ok (by omega)
  have oa9 : ∀ x ∈ a, x.ok 9 := fun x hx => (oa x hx).mono (by decide)
  have hsz : ∀ (p : List Rat) (x : Rat), (∀ q ∈ p, szQ q ≤ 9) → p.length ≤ 4 → szQ x ≤ 9 → szQ (evalQ p x) ≤ 65536 := fun p x h1 h2 h3 => by
    have := szQ_eval 9 x h3 p h1
    have : p.length * (2 * 9 + 1) ≤ 4 * (2 * 9 + 1) := Nat.mul_le_mul_right _ h2
    omega
  have qa9 : ∀ q ∈ qs a, szQ q ≤ 9 := fun q hq => Nat.le_trans (qa q hq) (by decide)
  have l4 : (a.length + 1) * (2 * 9 + 1) ≤ 1073741824 := by omega
  have l5 : (((trimQ (diffL (qs a))).map RF.of).length + 1) * (2 * 9 + 1) ≤ 1073741824 := by rw [List.length_map]; omega
  have e1 := polyEval a t 9 (by decide) (ot.mono (by decide)) oa9 l4
  have e2 := polyEval a (RF.of (t.q + absQ h.q)) 9 (by decide) oE oa9 l4
  have e3 := polyEval ((trimQ (diffL (qs a))).map RF.of) t 9 (by decide) (ot.mono (by decide)) odL l5
  have e4 := polyEval ((trimQ (diffL (qs a))).map RF.of) (RF.of (t.q + absQ h.q)) 9 (by decide) oE odL l5
  have e5 := polyEval a s 9 (by decide) (os.mono (by decide)) oa9 l4
  have e6 := polyEval ((trimQ (diffL (qs a))).map RF.of) s 9 (by decide) (os.mono (by decide)) odL l5
  rw [RF.of_q] at e2 e4
  rw [qs_of] at e3 e4 e6
  have z1 := hsz (qs a) t.q qa9 qaL (by omega)
  have z2 := hsz (qs a) (t.q + absQ h.q) qa9 qaL (by omega)
  have z3 := hsz (trimQ (diffL (qs a))) t.q qd qdL (by omega)
  have z4 := hsz (trimQ (diffL (qs a))) (t.q + absQ h.q) qd qdL (by omega)
  have z5 := hsz (qs a) s.q qa9 qaL (by omega)
  have z6 := hsz (trimQ (diffL (qs a))) s.q qd qdL (by omega)
  have cr : (polySpn (qs a) t (absQ h.q)).right = true := by
    simp only [Spn.right, polySpn, RF.of_q]
    simp [hpos]
  have ck : (polySpn (qs a) t (absQ h.q)).ok 65536 := by
    refine ⟨ot.mono (by decide), RF.of_ok (by omega), ?_, ?_, ?_, ?_⟩ <;> (intro x hx; simp [polySpn] at hx; subst hx; exact RF.of_ok (by assumption))
  have kAt := spanAt (polySpn (qs a) t (absQ h.q)) s cr (os.mono (by decide)) ck
  have kSl := spanSlope (polySpn (qs a) t (absQ h.q)) s cr (os.mono (by decide)) ck
  rw [polySpn_at _ _ _ _ qaL hne] at kAt
  rw [polySpn_slope _ _ _ _ qaL hne] at kSl
  have s5 := same1 _ z5
  have s6 := same1 _ z6
  simp only [polySpn, rowQ, List.map_cons, List.map_nil] at kAt kSl
  have kA : CallOk _ _ _ _ (RF.of (absQ h.q)).pv _ := kA
  have kE : CallOk _ _ _ _ (RF.of (t.q + absQ h.q)).pv _ := kE
  have e1 : CallOk _ _ _ _ (RF.of (evalQ (qs a) t.q)).pv _ := e1
  have e2 : CallOk _ _ _ _ (RF.of (evalQ (qs a) (t.q + absQ h.q))).pv _ := e2
  have e3 : CallOk _ _ _ _ (RF.of (evalQ (trimQ (diffL (qs a))) t.q)).pv _ := e3
  have e4 : CallOk _ _ _ _ (RF.of (evalQ (trimQ (diffL (qs a))) (t.q + absQ h.q))).pv _ := e4
  have e5 : CallOk _ _ _ _ (RF.of (evalQ (qs a) s.q)).pv _ := e5
  have e6 : CallOk _ _ _ _ (RF.of (evalQ (trimQ (diffL (qs a))) s.q)).pv _ := e6
  have kD : CallOk _ _ _ _ (row ((trimQ (diffL (qs a))).map RF.of)) _ := kD
  rename_i kA0 kE0 e10 e20 e30 e40 e50 e60 kD0
  clear kA0 kE0 e10 e20 e30 e40 e50 e60 kD0 z1 z2 z3 z4 z5 z6 cr ck hsz qa qaL qd qdL odL oE oa9 qa9 l4 l5 hzE hne hpos zH zs zt zh oa ot oh os
  generalize RF.of (evalQ (qs a) t.q) = E1 at *
  generalize RF.of (evalQ (qs a) (t.q + absQ h.q)) = E2 at *
  generalize RF.of (evalQ (trimQ (diffL (qs a))) t.q) = E3 at *
  generalize RF.of (evalQ (trimQ (diffL (qs a))) (t.q + absQ h.q)) = E4 at *
  generalize RF.of (evalQ (qs a) s.q) = E5 at *
  generalize RF.of (evalQ (trimQ (diffL (qs a))) s.q) = E6 at *
  generalize RF.of (t.q + absQ h.q) = E at *
  generalize RF.of (absQ h.q) = H at *
  generalize sgnQ (absQ h.q) = sg at *
  generalize (trimQ (diffL (qs a))).map RF.of = d at *
  simp only [Spn.pv, Spn.cells, row, RF.pv, cells3] at *
  generalize rowC a = A at *
  generalize rowC d = D at *
  simp only [rowC, RF.cells, List.flatMap_cons, List.flatMap_nil, List.length_cons, List.length_nil, List.append_nil, List.cons_append, List.nil_append, Nat.zero_add] at *
  refine CallOk.of_wl Tryz.func4 rfl rfl rfl (Nat.le_of_ble_eq_true rfl) ?_
  (repeat (first | with_reducible refine WL.seq ?_ | with_reducible refine WL.skip ?_ | with_reducible refine WL.label ?_ | with_reducible refine WL.block ?_ | with_reducible refine WL.scope ?_ | with_reducible refine WL.nilS ?_ | with_reducible refine WL.reS ?_ | with_reducible refine WL.exS ?_ | with_reducible refine WL.nilB ?_ | with_reducible refine WL.nilT ?_ | with_reducible refine WL.exit ?_ | with_reducible refine WL.ret ?_ | with_reducible refine WL.exT ?_ | with_reducible refine WL.exB ?_ | with_reducible refine WL.exN rfl ?_ | with_reducible refine WL.reT ?_ | with_reducible refine WL.reB ?_ | ((first | refine WL.reg rfl ?_ | refine WL.regT mixed rfl ?_); (conv => { arg 3; simp [prep, prep1] }); (repeat (first | (refine runK_call ⟨_, Tryz.func24, rfl, rfl⟩ ?_ ?_; (first | rfl | focus (simp; done)); (conv => { arg 6; simp (disch := omega) [if_pos, if_neg, h0] }); (first | refine callV0 (k1) rfl ?_ | (refine callV1 (k1) rfl ?_; (conv => { arg 1; simp }); refine frz1_go ?_))) | (refine runK_call ⟨_, Tryz.func12, rfl, rfl⟩ ?_ ?_; (first | rfl | focus (simp; done)); (conv => { arg 6; simp (disch := omega) [if_pos, if_neg, h0] }); (first | refine callV0 (k2) rfl ?_ | (refine callV1 (k2) rfl ?_; (conv => { arg 1; simp }); refine frz1_go ?_))) | (refine runK_call ⟨_, Tryz.func12, rfl, rfl⟩ ?_ ?_; (first | rfl | focus (simp; done)); (conv => { arg 6; simp (disch := omega) [if_pos, if_neg, h0] }); (first | refine callV0 (k3) rfl ?_ | (refine callV1 (k3) rfl ?_; (conv => { arg 1; simp }); refine frz1_go ?_))) | (refine runK_call ⟨_, Tryz.func12, rfl, rfl⟩ ?_ ?_; (first | rfl | focus (simp; done)); (conv => { arg 6; simp (disch := omega) [if_pos, if_neg, h0] }); (first | refine callV0 (k4) rfl ?_ | (refine callV1 (k4) rfl ?_; (conv => { arg 1; simp }); refine frz1_go ?_))) | (refine runK_call ⟨_, Tryz.func25, rfl, rfl⟩ ?_ ?_; (first | rfl | focus (simp; done)); (conv => { arg 6; simp (disch := omega) [if_pos, if_neg, h0] }); (first | refine callV0 (kT) rfl ?_ | (refine callV1 (kT) rfl ?_; (conv => { arg 1; simp }); refine frz1_go ?_))) | (refine runK_call ⟨_, Tryz.func26, rfl, rfl⟩ ?_ ?_; (first | rfl | focus (simp; done)); (conv => { arg 6; simp (disch := omega) [if_pos, if_neg, h0] }); (first | refine callV0 (kD) rfl ?_ | (refine callV1 (kD) rfl ?_; (conv => { arg 1; simp }); refine frz1_go ?_))) | (refine runK_call ⟨_, Tryz.func16, rfl, rfl⟩ ?_ ?_; (first | rfl | focus (simp; done)); (conv => { arg 6; simp (disch := omega) [if_pos, if_neg, h0] }); (first | refine callV0 (kt) rfl ?_ | (refine callV1 (kt) rfl ?_; (conv => { arg 1; simp }); refine frz1_go ?_))) | (refine runK_call ⟨_, Tryz.func16, rfl, rfl⟩ ?_ ?_; (first | rfl | focus (simp; done)); (conv => { arg 6; simp (disch := omega) [if_pos, if_neg, h0] }); (first | refine callV0 (kh) rfl ?_ | (refine callV1 (kh) rfl ?_; (conv => { arg 1; simp }); refine frz1_go ?_))) | (refine runK_call ⟨_, Tryz.func16, rfl, rfl⟩ ?_ ?_; (first | rfl | focus (simp; done)); (conv => { arg 6; simp (disch := omega) [if_pos, if_neg, h0] }); (first | refine callV0 (ks) rfl ?_ | (refine callV1 (ks) rfl ?_; (conv => { arg 1; simp }); refine frz1_go ?_))) | (refine runK_call ⟨_, Tryz.func27, rfl, rfl⟩ ?_ ?_; (first | rfl | focus (simp; done)); (conv => { arg 6; simp (disch := omega) [if_pos, if_neg, h0] }); (first | refine callV0 (kA) rfl ?_ | (refine callV1 (kA) rfl ?_; (conv => { arg 1; simp }); refine frz1_go ?_))) | (refine runK_call ⟨_, Tryz.func28, rfl, rfl⟩ ?_ ?_; (first | rfl | focus (simp; done)); (conv => { arg 6; simp (disch := omega) [if_pos, if_neg, h0] }); (first | refine callV0 (kS) rfl ?_ | (refine callV1 (kS) rfl ?_; (conv => { arg 1; simp }); refine frz1_go ?_))) | (refine runK_goM ?_ ?_; (first | rfl | focus (simp; done)); (conv => { arg 4; simp (disch := omega) [if_pos, if_neg, h0] }); (first | refine contK_val ?_ | refine contK_w1 ?_ | (refine contK_w1b ?_; (conv => { arg 5; arg 3; simp })) | refine contK_n1 ?_ | (refine contK_go ?_; (conv => { arg 5; simp })))) | (refine skip_val rfl ?_ ?_; (focus (simp; done))))); with_reducible refine runK_nil ?_; (first | refine ⟨rfl, ?_⟩ | refine ⟨by simp [quietB], by simp [quietU], ?_⟩ | skip)) | (refine WL.cond ?_; (conv => { arg 1; simp (disch := omega) [if_pos, if_neg, h0] }); (first | with_reducible refine condT ?_ | with_reducible refine condF ?_ | with_reducible refine condPT (by omega) ?_ | with_reducible refine condPF (by omega) ?_))))
  refine WL.fwd (fun s' => s'.frame 5 = .rd A a.length ∧ s'.frame 6 = .rd D d.length ∧ s'.frame 7 = .pt ⟨7, 0, 0⟩ 0 0 ∧ s'.frame 8 = .pt ⟨8, 0, 0⟩ 0 0 ∧ s'.frame 9 = .pt ⟨9, 0, 0⟩ 0 0 ∧
    s'.store ⟨7, 0, 0⟩ = some ⟨0, true, false, [.bool t.neg, wl t.n, wl t.d]⟩ ∧ s'.store ⟨8, 0, 0⟩ = some ⟨0, true, false, [.bool H.neg, wl H.n, wl H.d]⟩ ∧ s'.store ⟨9, 0, 0⟩ = some ⟨0, true, false, [.bool s.neg, wl s.n, wl s.d]⟩) ?_ ?_
  · exact ⟨by simp, by simp, by simp, by simp, by simp, by simp, by simp, by simp⟩
  clear k1 k2 k3 k4 kT kD kt kh ks kA kS
  rintro ⟨f, σ, g⟩ ⟨h5, h6, h7, h8, h9, q7, q8, q9⟩
  simp only at h5 h6 h7 h8 h9 q7 q8 q9
  (repeat (first | with_reducible refine WL.seq ?_ | with_reducible refine WL.skip ?_ | with_reducible refine WL.label ?_ | with_reducible refine WL.block ?_ | with_reducible refine WL.scope ?_ | with_reducible refine WL.nilS ?_ | with_reducible refine WL.reS ?_ | with_reducible refine WL.exS ?_ | with_reducible refine WL.nilB ?_ | with_reducible refine WL.nilT ?_ | with_reducible refine WL.exit ?_ | with_reducible refine WL.ret ?_ | with_reducible refine WL.exT ?_ | with_reducible refine WL.exB ?_ | with_reducible refine WL.exN rfl ?_ | with_reducible refine WL.reT ?_ | with_reducible refine WL.reB ?_ | ((first | refine WL.reg rfl ?_ | refine WL.regT mixed rfl ?_); (conv => { arg 3; simp [prep, prep1] }); (repeat (first | (refine runK_call ⟨_, Tryz.func29, rfl, rfl⟩ ?_ ?_; (first | rfl | focus (simp; done)); (conv => { arg 6; simp (disch := omega) [if_pos, if_neg, h7, h8, q7, q8] }); (first | refine callV0 (kE) rfl ?_ | (refine callV1 (kE) rfl ?_; (conv => { arg 1; simp }); refine frz1_go ?_))) | (refine runK_goM ?_ ?_; (first | rfl | focus (simp; done)); (conv => { arg 4; simp (disch := omega) [if_pos, if_neg, h7, h8, q7, q8] }); (first | refine contK_val ?_ | refine contK_w1 ?_ | (refine contK_w1b ?_; (conv => { arg 5; arg 3; simp })) | refine contK_n1 ?_ | (refine contK_go ?_; (conv => { arg 5; simp })))) | (refine skip_val rfl ?_ ?_; (focus (simp; done))))); with_reducible refine runK_nil ?_; (first | refine ⟨rfl, ?_⟩ | refine ⟨by simp [quietB], by simp [quietU], ?_⟩ | skip)) | (refine WL.cond ?_; (conv => { arg 1; simp (disch := omega) [if_pos, if_neg, h7, h8, q7, q8] }); (first | with_reducible refine condT ?_ | with_reducible refine condF ?_ | with_reducible refine condPT (by omega) ?_ | with_reducible refine condPF (by omega) ?_))))
  (repeat (first | with_reducible refine WL.seq ?_ | with_reducible refine WL.skip ?_ | with_reducible refine WL.label ?_ | with_reducible refine WL.block ?_ | with_reducible refine WL.scope ?_ | with_reducible refine WL.nilS ?_ | with_reducible refine WL.reS ?_ | with_reducible refine WL.exS ?_ | with_reducible refine WL.nilB ?_ | with_reducible refine WL.nilT ?_ | with_reducible refine WL.exit ?_ | with_reducible refine WL.ret ?_ | with_reducible refine WL.exT ?_ | with_reducible refine WL.exB ?_ | with_reducible refine WL.exN rfl ?_ | with_reducible refine WL.reT ?_ | with_reducible refine WL.reB ?_ | ((first | refine WL.reg rfl ?_ | refine WL.regT mixed rfl ?_); (conv => { arg 3; simp [prep, prep1] }); (repeat (first | (refine runK_call ⟨_, Tryz.func30, rfl, rfl⟩ ?_ ?_; (first | rfl | focus (simp; done)); (conv => { arg 6; simp (disch := omega) [if_pos, if_neg, -litE, litF1, h5, h6, h7, h8, q7, q8] }); (first | refine callV0 (e1) rfl ?_ | (refine callV1 (e1) rfl ?_; (conv => { arg 1; simp }); refine frz1_go ?_))) | (refine runK_call ⟨_, Tryz.func30, rfl, rfl⟩ ?_ ?_; (first | rfl | focus (simp; done)); (conv => { arg 6; simp (disch := omega) [if_pos, if_neg, -litE, litF1, h5, h6, h7, h8, q7, q8] }); (first | refine callV0 (e2) rfl ?_ | (refine callV1 (e2) rfl ?_; (conv => { arg 1; simp }); refine frz1_go ?_))) | (refine runK_call ⟨_, Tryz.func30, rfl, rfl⟩ ?_ ?_; (first | rfl | focus (simp; done)); (conv => { arg 6; simp (disch := omega) [if_pos, if_neg, -litE, litF1, h5, h6, h7, h8, q7, q8] }); (first | refine callV0 (e3) rfl ?_ | (refine callV1 (e3) rfl ?_; (conv => { arg 1; simp }); refine frz1_go ?_))) | (refine runK_call ⟨_, Tryz.func30, rfl, rfl⟩ ?_ ?_; (first | rfl | focus (simp; done)); (conv => { arg 6; simp (disch := omega) [if_pos, if_neg, -litE, litF1, h5, h6, h7, h8, q7, q8] }); (first | refine callV0 (e4) rfl ?_ | (refine callV1 (e4) rfl ?_; (conv => { arg 1; simp }); refine frz1_go ?_))) | (refine runK_goM ?_ ?_; (first | rfl | focus (simp; done)); (conv => { arg 4; simp (disch := omega) [if_pos, if_neg, -litE, litF1, h5, h6, h7, h8, q7, q8] }); (first | refine contK_val ?_ | refine contK_w1 ?_ | (refine contK_w1b ?_; (conv => { arg 5; arg 3; simp })) | refine contK_n1 ?_ | (refine contK_go ?_; (conv => { arg 5; simp })))) | (refine skip_val rfl ?_ ?_; (focus (simp; done))))); with_reducible refine runK_nil ?_; (first | refine ⟨rfl, ?_⟩ | refine ⟨by simp [quietB], by simp [quietU], ?_⟩ | skip)) | (refine WL.cond ?_; (conv => { arg 1; simp (disch := omega) [if_pos, if_neg, -litE, litF1, h5, h6, h7, h8, q7, q8] }); (first | with_reducible refine condT ?_ | with_reducible refine condF ?_ | with_reducible refine condPT (by omega) ?_ | with_reducible refine condPF (by omega) ?_))))
  refine WL.fwd (fun s' => s'.frame 5 = .rd A a.length ∧ s'.frame 6 = .rd D d.length ∧ s'.frame 9 = .pt ⟨9, 0, 0⟩ 0 0 ∧ s'.store ⟨9, 0, 0⟩ = some ⟨0, true, false, [.bool s.neg, wl s.n, wl s.d]⟩ ∧ s'.frame 11 = .pt ⟨11, g 11, 0⟩ 0 0 ∧
    s'.store ⟨11, g 11, 0⟩ = some ⟨0, true, false, [.bool t.neg, wl t.n, wl t.d, .bool H.neg, wl H.n, wl H.d, .sl ⟨60, g 60, 0⟩ 0 0 1 3, .sl ⟨64, g 64, 0⟩ 0 0 1 3, .sl ⟨68, g 68, 0⟩ 0 0 1 3, .sl ⟨72, g 72, 0⟩ 0 0 1 3]⟩ ∧
    s'.store ⟨60, g 60, 0⟩ = some ⟨0, true, true, [.bool E1.neg, wl E1.n, wl E1.d]⟩ ∧ s'.store ⟨64, g 64, 0⟩ = some ⟨0, true, true, [.bool E2.neg, wl E2.n, wl E2.d]⟩ ∧ s'.store ⟨68, g 68, 0⟩ = some ⟨0, true, true, [.bool E3.neg, wl E3.n, wl E3.d]⟩ ∧ s'.store ⟨72, g 72, 0⟩ = some ⟨0, true, true, [.bool E4.neg, wl E4.n, wl E4.d]⟩) ?_ ?_
  · exact ⟨by simp [h5], by simp [h6], by simp [h9], by simp [q9], by simp, by simp, by simp, by simp, by simp, by simp⟩
  clear kE e1 e2 e3 e4 h5 h6 h7 h8 h9 q7 q8 q9
  rintro ⟨f, σ, g'⟩ ⟨h5, h6, h9, q9, h11, q11, q60, q64, q68, q72⟩
  simp only at h5 h6 h9 q9 h11 q11 q60 q64 q68 q72
  (first | refine WL.reg rfl ?_ | refine WL.regT mixed rfl ?_); (conv => { arg 3; simp [prep, prep1] }); (repeat (first | (refine runK_goM ?_ ?_; (first | rfl | focus (simp; done)); (conv => { arg 4; simp (disch := omega) [if_pos, if_neg, h11, q11, h9, q9, q60, q64, q68, q72, List.filterMap_cons, List.filterMap_nil] }); (first | refine contK_val ?_ | refine contK_w1 ?_ | (refine contK_w1b ?_; (conv => { arg 5; arg 3; simp })) | refine contK_n1 ?_ | (refine contK_go ?_; (conv => { arg 5; simp })))) | (refine skip_val rfl ?_ ?_; (focus (simp; done)))))
  refine runK_goM ?_ ?_; (first | rfl | focus (simp; done)); (conv => { arg 4; simp (disch := omega) [if_pos, if_neg, h11, q11, h9, q9, q60, q64, q68, q72, List.filterMap_cons, List.filterMap_nil] })
  refine callU true rfl rfl ⟨_, Tryz.func14, rfl, rfl⟩ ?_
  (conv => { arg 6; simp (disch := omega) [if_pos, if_neg, h11, q11, h9, q9, q60, q64, q68, q72, List.filterMap_cons, List.filterMap_nil] })
  refine callC_go (kAt) rfl ?_
  (conv => { arg 5; simp (disch := omega) [if_pos, if_neg, h11, q11, h9, q9, q60, q64, q68, q72, List.filterMap_cons, List.filterMap_nil] })
  (repeat (first | (refine runK_goM ?_ ?_; (first | rfl | focus (simp; done)); (conv => { arg 4; simp (disch := omega) [if_pos, if_neg, h11, q11, h9, q9, q60, q64, q68, q72, List.filterMap_cons, List.filterMap_nil] }); (first | refine contK_val ?_ | (refine contK_go ?_; (conv => { arg 5; simp })))) | (refine skip_val rfl ?_ ?_; (focus (simp; done)))))
  with_reducible refine runK_nil ?_
  refine WL.seq ?_
  (first | refine WL.reg rfl ?_ | refine WL.regT mixed rfl ?_); (conv => { arg 3; simp [prep, prep1] }); (repeat (first | (refine runK_goM ?_ ?_; (first | rfl | focus (simp; done)); (conv => { arg 4; simp (disch := omega) [if_pos, if_neg, h11, q11, h9, q9, q60, q64, q68, q72, List.filterMap_cons, List.filterMap_nil] }); (first | refine contK_val ?_ | refine contK_w1 ?_ | (refine contK_w1b ?_; (conv => { arg 5; arg 3; simp })) | refine contK_n1 ?_ | (refine contK_go ?_; (conv => { arg 5; simp })))) | (refine skip_val rfl ?_ ?_; (focus (simp; done)))))
  refine runK_goM ?_ ?_; (first | rfl | focus (simp; done)); (conv => { arg 4; simp (disch := omega) [if_pos, if_neg, h11, q11, h9, q9, q60, q64, q68, q72, List.filterMap_cons, List.filterMap_nil] })
  refine callU true rfl rfl ⟨_, Tryz.func17, rfl, rfl⟩ ?_
  (conv => { arg 6; simp (disch := omega) [if_pos, if_neg, h11, q11, h9, q9, q60, q64, q68, q72, List.filterMap_cons, List.filterMap_nil] })
  refine callC_go (kSl) rfl ?_
  (conv => { arg 5; simp (disch := omega) [if_pos, if_neg, h11, q11, h9, q9, q60, q64, q68, q72, List.filterMap_cons, List.filterMap_nil] })
  (repeat (first | (refine runK_goM ?_ ?_; (first | rfl | focus (simp; done)); (conv => { arg 4; simp (disch := omega) [if_pos, if_neg, h11, q11, h9, q9, q60, q64, q68, q72, List.filterMap_cons, List.filterMap_nil] }); (first | refine contK_val ?_ | (refine contK_go ?_; (conv => { arg 5; simp })))) | (refine skip_val rfl ?_ ?_; (focus (simp; done)))))
  with_reducible refine runK_nil ?_
  (repeat (first | with_reducible refine WL.seq ?_ | with_reducible refine WL.skip ?_ | with_reducible refine WL.label ?_ | with_reducible refine WL.block ?_ | with_reducible refine WL.scope ?_ | with_reducible refine WL.nilS ?_ | with_reducible refine WL.reS ?_ | with_reducible refine WL.exS ?_ | with_reducible refine WL.nilB ?_ | with_reducible refine WL.nilT ?_ | with_reducible refine WL.exit ?_ | with_reducible refine WL.ret ?_ | with_reducible refine WL.exT ?_ | with_reducible refine WL.exB ?_ | with_reducible refine WL.exN rfl ?_ | with_reducible refine WL.reT ?_ | with_reducible refine WL.reB ?_ | ((first | refine WL.reg rfl ?_ | refine WL.regT mixed rfl ?_); (conv => { arg 3; simp [prep, prep1] }); (repeat (first | (refine runK_call ⟨_, Tryz.func30, rfl, rfl⟩ ?_ ?_; (first | rfl | focus (simp; done)); (conv => { arg 6; simp (disch := omega) [if_pos, if_neg, -litE, litF1, h5, h6, h9, q9] }); (first | refine callV0 (e5) rfl ?_ | (refine callV1 (e5) rfl ?_; (conv => { arg 1; simp }); refine frz1_go ?_))) | (refine runK_call ⟨_, Tryz.func30, rfl, rfl⟩ ?_ ?_; (first | rfl | focus (simp; done)); (conv => { arg 6; simp (disch := omega) [if_pos, if_neg, -litE, litF1, h5, h6, h9, q9] }); (first | refine callV0 (e6) rfl ?_ | (refine callV1 (e6) rfl ?_; (conv => { arg 1; simp }); refine frz1_go ?_))) | (refine runK_call ⟨_, Tryz.func31, rfl, rfl⟩ ?_ ?_; (first | rfl | focus (simp; done)); (conv => { arg 6; simp (disch := omega) [if_pos, if_neg, -litE, litF1, h5, h6, h9, q9] }); (first | refine callV0 (s5) rfl ?_ | (refine callV1 (s5) rfl ?_; (conv => { arg 1; simp }); refine frz1_go ?_))) | (refine runK_call ⟨_, Tryz.func31, rfl, rfl⟩ ?_ ?_; (first | rfl | focus (simp; done)); (conv => { arg 6; simp (disch := omega) [if_pos, if_neg, -litE, litF1, h5, h6, h9, q9] }); (first | refine callV0 (s6) rfl ?_ | (refine callV1 (s6) rfl ?_; (conv => { arg 1; simp }); refine frz1_go ?_))) | (refine runK_call ⟨_, Tryz.func13, rfl, rfl⟩ ?_ ?_; (first | rfl | focus (simp; done)); (conv => { arg 6; simp (disch := omega) [if_pos, if_neg, -litE, litF1, h5, h6, h9, q9] }); (first | refine callV0 (kw) rfl ?_ | (refine callV1 (kw) rfl ?_; (conv => { arg 1; simp }); refine frz1_go ?_))) | (refine runK_goM ?_ ?_; (first | rfl | focus (simp; done)); (conv => { arg 4; simp (disch := omega) [if_pos, if_neg, -litE, litF1, h5, h6, h9, q9] }); (first | refine contK_val ?_ | refine contK_w1 ?_ | (refine contK_w1b ?_; (conv => { arg 5; arg 3; simp })) | refine contK_n1 ?_ | (refine contK_go ?_; (conv => { arg 5; simp })))) | (refine skip_val rfl ?_ ?_; (focus (simp; done))))); with_reducible refine runK_nil ?_; (first | refine ⟨rfl, ?_⟩ | refine ⟨by simp [quietB], by simp [quietU], ?_⟩ | skip)) | (refine WL.cond ?_; (conv => { arg 1; simp (disch := omega) [if_pos, if_neg, -litE, litF1, h5, h6, h9, q9] }); (first | with_reducible refine condT ?_ | with_reducible refine condF ?_ | with_reducible refine condPT (by omega) ?_ | with_reducible refine condPF (by omega) ?_))))
  refine ⟨[], ?_⟩
  simp (disch := omega) [if_pos, if_neg]

theorem lawSpanPolys (a : List RF) (t h s : RF) (hla : a.length ≤ 2513169434843) (wa : ∀ x ∈ a, x.wfR) (wt : t.wfR) (wh : h.wfR) (ws_ : s.wfR) : CallOk Tryz.prog 4 [row a, .agg (cells3 t h s)] [] (.bool true) [] := by
  cases hL : (longR a 4 2 || longF t 2 || longF h 2 || longF s 2)
  · simp only [Bool.or_eq_false_iff] at hL
    obtain ⟨⟨⟨a1, a2⟩, a3⟩, a4⟩ := hL
    exact polysGo a t h s wa wt wh ws_ a1 a2 a3 a4
  · exact polysLong a t h s hla hL
end Go.Proofs.YthgldcflcmlgpaaGreatDoorE
end

section
/- From a contract to a row's step. -/
set_option linter.unusedVariables false
set_option linter.unusedSimpArgs false
namespace Go.Proofs.YthgldcflcmlgpaaGreatDoorE
open Go.ChangeShapes Go.WideShapes Go.ChangeAt Go.RowKit

/-- What is handed over when a law is entered: trees alone. -/
def lawCtx (W : World) : Ctx := ⟨W, fun _ _ => False, fun _ => True, 0, fun _ => none, fun _ => none⟩
def lawEnv (W : World) : Env := env (lawCtx W) (fun _ => none) (stOf []) W

theorem entry_law {W : World} {ps : List PV} {args : Array Value} (hs : args.size = ps.length) (h : ∀ j, j < ps.length → VR (lawEnv W) (ps.getD j .any) (args.getD j undef)) : Entry (lawCtx W) (fun _ => none) ps [] args :=
  ⟨hs, h, ⟨fun id blk hb => by simp [env, stOf] at hb, fun id id' blk blk' g o o' hb => by simp [env, stOf] at hb⟩, fun id g h => h.elim⟩

theorem law_calls {P : Program} {f : FuncId} {ps : List PV} {b : Bool} (hc : CallOk P f ps [] (.bool b) []) {W : World} {args : Array Value} (hs : args.size = ps.length) (h : ∀ j, j < ps.length → VR (lawEnv W) (ps.getD j .any) (args.getD j undef)) :
    Calls P f args W fun e W' => e = .returned (.bool b) ∧ Below W.heap.size W W' :=
  (hc (lawCtx W) (fun _ => none) args (entry_law hs h)).mono fun e W' ⟨v, β', he, hL⟩ => by
    subst he
    rw [hL.vr.bool_inv]
    refine ⟨rfl, Keeps.below (B := W.heap.size) ?_⟩
    have hk := hL.keeps
    refine ⟨hk.os, hk.tape, hk.output, hk.size, fun k h1 h2 => hk.block k h1 fun ⟨id, h⟩ => h, hk.room⟩

theorem Below.trodAll {H : Type} {enc : TypeId × Value → H} {P : Program} (hl : laidOutB P = true) {W W' : World} (hb : Below W.heap.size W W') : ∀ {ts : List TypeId} {vs : List Value} {ds : List (DataW H)} {ps : List MemPlace},
    (ts.all fun t => P.readableRec t && decide (t < P.types.size)) = true → DataW.TrodAll enc P W 0 (fun _ => true) true ts vs ds ps → (∀ x ∈ ps, x.block < W.heap.size) → DataW.TrodAll enc P W' 0 (fun b => decide (b < W.heap.size)) true ts vs ds ps
  | [], [], [], ps, _, h, _ => h
  | t :: ts, v :: vs, d :: ds, ps, hr, h, hlt => by
    obtain ⟨p, q, h1, h2, rfl⟩ := h
    simp only [List.all_cons, Bool.and_eq_true, decide_eq_true_eq] at hr
    obtain ⟨⟨r1, r2⟩, r3⟩ := hr
    exact ⟨p, q, Below.trod hl r1 r2 h1 hb (fun x hx => hlt x (List.mem_append.2 (.inl hx))), Below.trodAll hl hb r3 h2 (fun x hx => hlt x (List.mem_append.2 (.inr hx))), rfl⟩
  | [], [], _ :: _, _, _, h, _ => h.elim
  | [], _ :: _, _, _, _, h, _ => h.elim
  | _ :: _, [], _, _, _, h, _ => h.elim
  | _ :: _, _ :: _, [], _, _, h, _ => h.elim

theorem law_post {H : Type} {enc : TypeId × Value → H} {P : Program} {fn : Func} {s : ChangeSpec} {W W' : World} {args : Array Value} {ds gs : List (DataW H)} {before : List MemPlace} {tb : TypeId} (hl : laidOutB P = true)
    (hr : (fn.params.toList.all fun t => P.readableRec t && decide (t < P.types.size)) = true) (hv : s.vars = []) (ht : fn.resultTypes = #[tb]) (hu : P.underlying tb = some .bool)
    (hW : DataW.Whole enc P fn.params.toList s.vars false W args.toList ds gs before) (hs1 : (s.fn H (ds ++ gs)).results = [.lit (.bool true)]) (hs2 : (s.fn H (ds ++ gs)).args = ds) (hs3 : (s.fn H (ds ++ gs)).vars = [])
    (hb : Below W.heap.size W W') : s.post enc P fn false true false false W args (.bool true) W' := by
  have hW' := hW
  obtain ⟨p, q, h1, h2, h3, h4, h5⟩ := hW
  rw [hv] at h2
  have hq : q = [] := by
    cases gs with
    | nil => exact h2
    | cons g gs => exact h2.elim
  subst hq
  rw [List.append_nil] at h3
  subst h3
  refine ⟨ds, gs, before, [], before, [], hW', ?_, ?_, ?_, World.keptBut_mono (fun _ hf => hf.elim) (hb.frame fun _ => False), nofun⟩
  · rw [hs1, ht]
    exact trodAll_cons_mk (shut_bool hu _) trodAll_mk0
  · rw [hs2]
    exact Below.trodAll hl hb hr h1 (fun x hx => by simpa using hW'.lt x hx)
  · rw [hs3, hv]; rfl
end Go.Proofs.YthgldcflcmlgpaaGreatDoorE
end

section
/- What a reading of an argument is, as a tree: a nil slice as a list without places; each slice and text within the form's own reach of bytes (this text, Eu or Ez, never two of them). -/
set_option linter.unusedVariables false
set_option linter.unusedSimpArgs false
namespace Go.Proofs.YthgldcflcmlgpaaGreatDoorE
open Go.ChangeShapes Go.WideShapes Go.ChangeAt Go.RowKit

theorem addr_add_block (a : Addr) (n : Nat) : (a.add n).block = a.block := by unfold Addr.add; split <;> rfl
def Tree (E : Env) (L : List PV) (cs : List Value) : Prop :=
  L.length = cs.length ∧ ∀ j, j < L.length → VR E (L.getD j .any) (cs.getD j undef) ∧ (cs.getD j undef).oneCell' = true

theorem Tree.one {E : Env} {p : PV} {v : Value} (h : VR E p v) (ho : v.oneCell' = true) : Tree E [p] [v] :=
  ⟨rfl, fun j hj => by
    have : j = 0 := by simpa using hj
    subst this
    exact ⟨h, ho⟩⟩

theorem Tree.app {E : Env} {A B : List PV} {va vb : List Value} (h : Tree E A va) (k : Tree E B vb) : Tree E (A ++ B) (va ++ vb) := by
  refine ⟨by simp [h.1, k.1], fun j hj => ?_⟩
  by_cases hlt : j < A.length
  · have := h.2 j hlt
    rw [List.getD_eq_getElem?_getD, List.getD_eq_getElem?_getD, List.getElem?_append_left hlt, List.getElem?_append_left (by rw [← h.1]; exact hlt), ← List.getD_eq_getElem?_getD, ← List.getD_eq_getElem?_getD]
    exact this
  · have := k.2 (j - A.length) (by simp at hj; omega)
    rw [List.getD_eq_getElem?_getD, List.getD_eq_getElem?_getD, List.getElem?_append_right (by omega), List.getElem?_append_right (by rw [← h.1]; omega), ← h.1, ← List.getD_eq_getElem?_getD, ← List.getD_eq_getElem?_getD]
    exact this

def tiles (P : Program) : List Field → Nat → Option Nat
  | [], o => some o
  | f :: r, o => if f.offset = o then tiles P r (o + P.cellsOf f.type) else none

def closedT (P : Program) (S : List TypeId) (t : TypeId) : Bool :=
  match P.underlying t with
  | some .bool | some (.int _) | some .string => true
  | some (.slice e) => S.contains e && decide (P.cellsOf e ≠ 0)
  | some (.struct fs) => fs.toList.all (fun f => S.contains f.type) && decide (tiles P fs.toList 0 = some (P.cellsOf t))
  | some (.array m e) => S.contains e && decide (P.cellsOf t = m * P.cellsOf e)
  | _ => false
def closedB (P : Program) (S : List TypeId) : Bool := S.all (closedT P S)

/-- What a tree of a type looks like. -/
def Shape (P : Program) : Nat → TypeId → List PV → Prop
  | 0, _, _ => False
  | n + 1, t, L => match P.underlying t with
    | some .bool => ∃ b, L = [.bool b]
    | some (.int k) => ∃ x, L = [.int k x] ∧ (Lit.int k x).wf = true
    | some .string => ∃ s : ByteArray, L = [.str s] ∧ s.size ≤ reachBytes
    | some (.slice e) => ∃ len M, L = [.rd M len] ∧ M.length = len * P.cellsOf e ∧ len * P.bytesOf e ≤ reachBytes ∧ ∀ i, i < len → Shape P n e ((M.drop (i * P.cellsOf e)).take (P.cellsOf e))
    | some (.struct fs) => L.length = P.cellsOf t ∧ ∀ f ∈ fs.toList, Shape P n f.type ((L.drop f.offset).take (P.cellsOf f.type))
    | some (.array m e) => L.length = m * P.cellsOf e ∧ ∀ i, i < m → Shape P n e ((L.drop (i * P.cellsOf e)).take (P.cellsOf e))
    | _ => False

section
variable {H : Type} {enc : TypeId × Value → H} {P : Program} {W : World}

theorem fields_tree {E : Env} {n : Nat} {cs : List Value} : ∀ (fs : List Field) (o tot : Nat), tiles P fs o = some tot → tot = cs.length → o ≤ cs.length →
    (∀ f ∈ fs, ∃ L, Tree E L ((cs.drop f.offset).take (P.cellsOf f.type)) ∧ Shape P n f.type L) →
    ∃ L, Tree E L (cs.drop o) ∧ ∀ f ∈ fs, o ≤ f.offset ∧ Shape P n f.type ((L.drop (f.offset - o)).take (P.cellsOf f.type))
  | [], o, tot, ht, he, ho, _ => by
    injection ht with ht
    refine ⟨[], ⟨by simp; omega, by simp⟩, by simp⟩
  | f :: r, o, tot, ht, he, ho, hf => by
    simp only [tiles] at ht
    split at ht
    · rename_i hfo
      have hle : ∀ (l : List Field) (a b : Nat), tiles P l a = some b → a ≤ b := by
        intro l
        induction l with
        | nil => intro a b h; injection h with h; omega
        | cons g l ih =>
          intro a b h
          simp only [tiles] at h
          split at h
          · have := ih _ _ h; omega
          · cases h
      have hb := hle _ _ _ ht
      obtain ⟨L2, h1, h2⟩ := fields_tree r (o + P.cellsOf f.type) tot ht he (by omega) (fun g hg => hf g (by simp [hg]))
      obtain ⟨L1, k1, k2⟩ := hf f (by simp)
      have hl1 : L1.length = P.cellsOf f.type := by rw [k1.1, List.length_take, List.length_drop, hfo]; omega
      refine ⟨L1 ++ L2, ?_, ?_⟩
      · have := k1.app h1
        rw [hfo] at this
        rwa [← List.drop_drop, List.take_append_drop] at this
      · intro g hg
        rcases List.mem_cons.1 hg with e | hg
        · subst e
          refine ⟨by omega, ?_⟩
          rw [hfo, Nat.sub_self, List.drop_zero, List.take_append_of_le_length (by omega), List.take_of_length_le (by omega)]
          exact k2
        · obtain ⟨a1, a2⟩ := h2 g hg
          refine ⟨by omega, ?_⟩
          rw [List.drop_append, List.drop_of_length_le (by omega), List.nil_append, show g.offset - o - L1.length = g.offset - (o + P.cellsOf f.type) by omega]
          exact a2
    · cases ht

theorem cells_at {w : World} {base : Nat} {a : Addr} : ∀ {n : Nat} {cs : List Value}, w.cells? base a n = some cs → cs.length = n ∧ ∀ j, j < n → w.cell? (a.add j) = some (cs.getD j undef) := by
  intro n cs h
  unfold World.cells? at h
  split at h
  · have hl := Go.mapM_some_length h
    simp at hl
    refine ⟨hl, fun j hj => ?_⟩
    have hg := Go.mapM_some_get h j j (by simp [hj])
    rw [hg, List.getD_eq_getElem?_getD, List.getElem?_eq_getElem (by omega), Option.getD_some]
  · cases h

def Light (P : Program) (t : TypeId) (d : DataW H) : Prop := ∀ n ∈ d.weights P t, n ≤ reachBytes
theorem light_all {e : TypeId} {l : List (DataW H)} (h : ∀ n ∈ DataW.weightsAll P e l, n ≤ reachBytes) {d : DataW H} (hd : d ∈ l) : Light P e d := by
  induction l with
  | nil => cases hd
  | cons x r ih =>
    simp only [DataW.weightsAll, List.mem_append] at h
    rcases List.mem_cons.1 hd with e | e
    · subst e; exact fun n hn => h n (.inl hn)
    · exact ih (fun n hn => h n (.inr hn)) e
theorem light_each {l : List (DataW H)} : ∀ {ts : List TypeId}, (∀ n ∈ DataW.weightsEach P ts l, n ≤ reachBytes) → ∀ {i : Nat} {t : TypeId} {d : DataW H}, ts[i]? = some t → l[i]? = some d → Light P t d := by
  induction l with
  | nil => intro ts h i t d h1 h2; simp at h2
  | cons x r ih =>
    intro ts h i t d h1 h2
    cases ts with
    | nil => simp at h1
    | cons u us =>
      simp only [DataW.weightsEach, List.mem_append] at h
      cases i with
      | zero => simp at h1 h2; subst h1 h2; exact fun n hn => h n (.inl hn)
      | succ i => exact ih (fun n hn => h n (.inr hn)) (by simpa using h1) (by simpa using h2)

theorem trod_tree {S : List TypeId} {sp : Nat → Bool} {held : Bool} (hS : closedB P S = true) : ∀ (fuel : Nat) (t : TypeId) (cs : List Value) (x : DataW H × List MemPlace), t ∈ S → DataW.trod enc P W 0 sp held fuel t cs = some x → Light P t x.1 →
    ∃ L, Tree (lawEnv W).bare L cs ∧ Shape P fuel t L
  | 0, _, _, _, _, h, _ => by simp [DataW.trod] at h
  | n + 1, t, cs, x, ht, h, hK => by
    have hc := List.all_eq_true.1 hS t ht
    unfold closedT at hc
    unfold Shape
    split at hc
    · rename_i hu
      obtain ⟨b, rfl, _⟩ := DataW.trod_bool hu h
      exact ⟨[.bool b], .one (.bool _) rfl, b, rfl⟩
    · rename_i k hu
      obtain ⟨m, rfl, _, hw⟩ := DataW.trod_int hu h
      exact ⟨[.int k m], .one (.int _ _) rfl, m, rfl, hw⟩
    · rename_i hu
      obtain ⟨s, rfl, hx, hw⟩ := DataW.trod_string hu h
      rw [hx] at hK
      have hw2 := hK s.data.toList.length (by unfold DataW.weights; simp)
      rw [Array.length_toList] at hw2
      exact ⟨[.str s], .one (.str _) rfl, s, rfl, hw2⟩
    · rename_i e hu
      simp only [Bool.and_eq_true, List.contains_eq_mem, decide_eq_true_eq] at hc
      obtain ⟨he, hne⟩ := hc
      rcases DataW.trod_slice hu h with ⟨rfl, _⟩ | ⟨a, len, cap, elems, rest, m, hm, rfl, hx, _, h1, h2, h3, h4, _, _⟩
      · exact ⟨[.rd [] 0], .one (.rd0 _ _ _ (Nat.le_refl _)) rfl, 0, [], rfl, by simp, by simp, fun i hi => absurd hi (by omega)⟩
      · injection hm with hm; subst hm
        rw [hx] at hK
        unfold Light DataW.weights at hK
        rw [hu] at hK
        simp only [List.mem_cons, List.mem_append, List.length_map] at hK
        have hlK := hK _ (.inl rfl)
        have hlK2 : len * P.bytesOf e ≤ (elems.length + rest.length) * P.bytesOf e := Nat.mul_le_mul_right _ (by omega)
        have hKa : ∀ n ∈ DataW.weightsAll P e (elems.map (·.1)), n ≤ reachBytes := fun n hn => hK n (.inr (.inl hn))
        have key : ∀ k, k ≤ len → ∃ M : List PV, M.length = k * P.cellsOf e ∧ (∀ j, j < M.length → ∃ u, W.cell? (a.add j) = some u ∧ VR (lawEnv W).bare (M.getD j .any) u ∧ u.oneCell' = true) ∧ ∀ i, i < k → Shape P n e ((M.drop (i * P.cellsOf e)).take (P.cellsOf e)) := by
          intro k
          induction k with
          | zero => intro _; exact ⟨[], by simp, by simp, by simp⟩
          | succ k ih =>
            intro hk
            obtain ⟨M, m1, m2, m3⟩ := ih (by omega)
            have hel := h4 k (by omega)
            rw [List.getElem?_eq_getElem (by omega)] at hel
            obtain ⟨cs', c1, c2⟩ := Option.bind_eq_some_iff.1 hel
            obtain ⟨c3, c4⟩ := cells_at c1
            obtain ⟨L, l1, l2⟩ := trod_tree hS n e cs' _ he c2 (light_all hKa (List.mem_map_of_mem (f := (·.1)) (List.getElem_mem (l := elems) (n := k) (by omega))))
            have hLl : L.length = P.cellsOf e := by rw [l1.1, c3]
            refine ⟨M ++ L, by rw [List.length_append, m1, hLl, Nat.succ_mul], fun j hj => ?_, fun i hi => ?_⟩
            · by_cases hlt : j < M.length
              · rw [List.getD_eq_getElem?_getD, List.getElem?_append_left hlt, ← List.getD_eq_getElem?_getD]
                exact m2 j hlt
              · rw [List.length_append] at hj
                rw [List.getD_eq_getElem?_getD, List.getElem?_append_right (by omega), ← List.getD_eq_getElem?_getD]
                obtain ⟨q1, q2⟩ := l1.2 (j - M.length) (by omega)
                refine ⟨_, ?_, q1, q2⟩
                rw [← c4 (j - M.length) (by omega)]
                congr 1
                rw [addr_add_add]
                congr 1
                omega
            · by_cases hlt : i < k
              · have hmul : i * P.cellsOf e + P.cellsOf e ≤ k * P.cellsOf e := by rw [← Nat.succ_mul]; exact Nat.mul_le_mul_right _ hlt
                rw [List.drop_append_of_le_length (by omega), List.take_append_of_le_length (by rw [List.length_drop]; omega)]
                exact m3 i hlt
              · have : i = k := by omega
                subst this
                rw [← m1, List.drop_left, List.take_of_length_le (by omega)]
                exact l2
        obtain ⟨M, m1, m2, m3⟩ := key len (Nat.le_refl _)
        refine ⟨[.rd M len], .one ?_ rfl, len, M, rfl, m1, by omega, m3⟩
        by_cases hz : M = []
        · subst hz; exact .rd0 _ _ _ h1
        · have hpos : 0 < M.length := List.length_pos_iff.2 hz
          refine .rd M len a cap (fun j => (W.cell? (a.add j)).getD undef) h1 ?_ (fun j hj => ?_) (fun j hj => ?_) (fun j hj => ?_)
          · obtain ⟨u, hu', _⟩ := m2 0 hpos
            have hlt : a.block < W.heap.size := by
              unfold World.cell? at hu'
              rw [addr_add_block] at hu'
              by_cases hb : a.block < W.heap.size
              · exact hb
              · rw [Array.getElem?_eq_none (by omega)] at hu'; simp at hu'
            exact ⟨hlt, .inl trivial, fun id blk o hb => by simp [stOf] at hb⟩
          · obtain ⟨u, hu', _⟩ := m2 j hj
            show W.cell? (a.add j) = _
            rw [hu']; rfl
          · obtain ⟨u, hu', hv, _⟩ := m2 j hj
            rw [hu']; exact hv
          · obtain ⟨u, hu', _, ho⟩ := m2 j hj
            rw [hu']; exact ho
    · rename_i fs hu
      simp only [Bool.and_eq_true, List.all_eq_true, List.contains_eq_mem, decide_eq_true_eq] at hc
      obtain ⟨hf, htl⟩ := hc
      obtain ⟨xs, m, hm, hxe, hlen, hxl, hx⟩ := DataW.trod_struct hu h
      injection hm with hm; subst hm
      rw [hxe] at hK
      unfold Light DataW.weights at hK
      rw [hu] at hK
      simp only at hK
      obtain ⟨L, l1, l2⟩ := fields_tree (P := P) (E := (lawEnv W).bare) (n := n) (cs := cs) fs.toList 0 _ htl hlen.symm (by omega) (fun f hfm => by
        obtain ⟨i, hi, hie⟩ := List.getElem_of_mem hfm
        have := hx i f (by simpa [Array.getElem?_toList] using List.getElem?_eq_some_iff.2 ⟨hi, hie⟩)
        rw [List.getElem?_eq_getElem (by rw [hxl]; simpa using hi)] at this
        exact trod_tree hS n f.type _ _ (hf f hfm) this (light_each hK (i := i) (by simp [List.getElem?_eq_getElem (show i < fs.toList.length from hi), hie]) (by simp [List.getElem?_eq_getElem (show i < xs.length by rw [hxl]; simpa using hi)])))
      rw [List.drop_zero] at l1
      refine ⟨L, l1, by rw [l1.1, hlen], fun f hfm => ?_⟩
      have := (l2 f hfm).2
      rwa [Nat.sub_zero] at this
    · rename_i am e hu
      simp only [Bool.and_eq_true, List.contains_eq_mem, decide_eq_true_eq] at hc
      obtain ⟨he, hsz⟩ := hc
      obtain ⟨xs, m, hm, hxe, hlen, hxl, hx⟩ := DataW.trod_array hu h
      injection hm with hm; subst hm
      rw [hxe] at hK
      unfold Light DataW.weights at hK
      rw [hu] at hK
      simp only at hK
      have key : ∀ k, k ≤ am → ∃ M : List PV, Tree (lawEnv W).bare M (cs.take (k * P.cellsOf e)) ∧ M.length = k * P.cellsOf e ∧ ∀ i, i < k → Shape P n e ((M.drop (i * P.cellsOf e)).take (P.cellsOf e)) := by
        intro k
        induction k with
        | zero => intro _; exact ⟨[], ⟨by simp, by simp⟩, by simp, by simp⟩
        | succ k ih =>
          intro hk
          obtain ⟨M, m1, m2, m3⟩ := ih (by omega)
          have hel := hx k (by omega)
          rw [List.getElem?_eq_getElem (by omega)] at hel
          obtain ⟨L, l1, l2⟩ := trod_tree hS n e _ _ he hel (light_all hK (List.mem_map_of_mem (f := (·.1)) (List.getElem_mem (l := xs) (n := k) (by omega))))
          have hkm : (k + 1) * P.cellsOf e ≤ am * P.cellsOf e := Nat.mul_le_mul_right _ hk
          have hLl : L.length = P.cellsOf e := by rw [l1.1, List.length_take, List.length_drop]; rw [Nat.succ_mul] at hkm; omega
          refine ⟨M ++ L, ?_, by rw [List.length_append, m2, hLl, Nat.succ_mul], fun i hi => ?_⟩
          · have := m1.app l1
            rwa [← List.take_add, ← Nat.succ_mul] at this
          · by_cases hlt : i < k
            · have hmul : i * P.cellsOf e + P.cellsOf e ≤ k * P.cellsOf e := by rw [← Nat.succ_mul]; exact Nat.mul_le_mul_right _ hlt
              rw [List.drop_append_of_le_length (by omega), List.take_append_of_le_length (by rw [List.length_drop]; omega)]
              exact m3 i hlt
            · have : i = k := by omega
              subst this
              rw [← m2, List.drop_left, List.take_of_length_le (by omega)]
              exact l2
      obtain ⟨M, m1, m2, m3⟩ := key am (Nat.le_refl _)
      rw [List.take_of_length_le (by omega)] at m1
      exact ⟨M, m1, m2, m3⟩
    · cases hc

/-- An argument's tree: what it is, and that it stands for the argument. -/
theorem arg_tree {S : List TypeId} (hS : closedB P S = true) {sp : Nat → Bool} {held : Bool} {t : TypeId} (ht : t ∈ S) {v : Value} {d : DataW H} {ps : List MemPlace} (hv : v.oneCell' = true) (h : DataW.Trod enc P W 0 sp held t v d ps) (hK : Light P t d) :
    ∃ fuel p, VR (lawEnv W) p v ∧ Shape P fuel t [p] := by
  obtain ⟨fuel, h⟩ := h
  obtain ⟨L, h1, h2⟩ := trod_tree hS fuel t _ _ ht h hK
  have hc : v.cells.toList = [v] := by cases v <;> simp_all [Value.cells, Value.oneCell']
  rw [hc] at h1
  match L, h1.1 with
  | [p], _ => exact ⟨fuel, p, (h1.2 0 (by simp)).1.of_bare, h2⟩

/-- .. of a struct. -/
theorem agg_tree {S : List TypeId} (hS : closedB P S = true) {sp : Nat → Bool} {held : Bool} {t : TypeId} (ht : t ∈ S) {cs : Array Value} {d : DataW H} {ps : List MemPlace} (h : DataW.Trod enc P W 0 sp held t (.agg cs) d ps) (hK : Light P t d) :
    ∃ fuel L, VR (lawEnv W) (.agg L) (.agg cs) ∧ Shape P fuel t L := by
  obtain ⟨fuel, h⟩ := h
  obtain ⟨L, h1, h2⟩ := trod_tree hS fuel t _ _ ht h hK
  have hc : (Value.agg cs).cells.toList = cs.toList := rfl
  rw [hc] at h1
  have hlen : cs.size = L.length := by rw [h1.1, Array.length_toList]
  refine ⟨fuel, L, .agg _ _ hlen (fun j hj => ?_) fun j hj => ?_, h2⟩
  · have := (h1.2 j hj).1.of_bare
    simpa [List.getD_eq_getElem?_getD, Array.getD_eq_getD_getElem?] using this
  · have := (h1.2 j hj).2
    simpa [List.getD_eq_getElem?_getD, Array.getD_eq_getD_getElem?] using this
theorem okWide_array {w : World} {r : Reach} {base : Nat} {t : TypeId} {v : Value} {n : Nat} {e : TypeId} (ht : P.underlying t = some (.array n e)) (h : Value.okWide P w r base t v) : ∃ cs, v = .agg cs ∧ cs.size = P.cellsOf t := by
  simp only [Value.okWide, ht] at h
  obtain ⟨cs, h1, h2, _⟩ := h
  exact ⟨cs, h1, h2⟩
theorem light_arg {ts : List TypeId} {ds : List (DataW H)} (h : (DataW.weightsEach P ts ds).all (fun n => decide (n ≤ reachBytes)) = true) {i : Nat} {t : TypeId} {d : DataW H} (h1 : ts[i]? = some t) (h2 : ds[i]? = some d) : Light P t d :=
  light_each (fun n hn => by simpa using List.all_eq_true.1 h n hn) h1 h2
end
end Go.Proofs.YthgldcflcmlgpaaGreatDoorE
end

section
/- What arguments are: lists of words, fractions, rows. -/
set_option linter.unusedVariables false
set_option linter.unusedSimpArgs false
namespace Go.Proofs.YthgldcflcmlgpaaGreatDoorE
open Go.ChangeShapes Go.WideShapes Go.ChangeAt Go.RowKit
set_option maxRecDepth 100000

theorem limbs_of : ∀ {n : Nat} {L : List PV}, Shape Tryz.prog n 22 L → ∃ l, L = [wl l] ∧ wf l ∧ l.length ≤ 35184372088832
  | 0, _, h => h.elim
  | n + 1, L, h => by
    have hu : Tryz.prog.underlying 22 = some (.slice 104) := by rfl
    have hc : Tryz.prog.cellsOf 104 = 1 := by kernel_rfl
    have hb : Tryz.prog.bytesOf 104 = 4 := by kernel_rfl
    unfold Shape at h
    rw [hu] at h
    obtain ⟨len, M, rfl, hM, hlen, hel⟩ := h
    rw [hb] at hlen
    unfold reachBytes at hlen
    simp only [hc, Nat.mul_one] at hM hel
    have key : ∀ k, k ≤ len → ∃ l, M.take k = ws l ∧ wf l ∧ l.length = k := by
      intro k
      induction k with
      | zero => intro _; exact ⟨[], by simp [ws], by intro x hx; simp at hx, rfl⟩
      | succ k ih =>
        intro hk
        obtain ⟨l, h1, h2, h3⟩ := ih (by omega)
        have he := hel k (by omega)
        cases n with
        | zero => exact he.elim
        | succ n =>
          unfold Shape at he
          rw [show Tryz.prog.underlying 104 = some (.int .u32) from rfl] at he
          obtain ⟨x, hx, hw⟩ := he
          have hr : 0 ≤ x ∧ x ≤ 4294967295 := by simpa [Lit.wf, IntKind.min, IntKind.max, IntKind.signed, IntKind.bits] using hw
          refine ⟨l ++ [x.toNat], ?_, ?_, by simp [h3]⟩
          · rw [List.take_add, h1, hx]
            simp only [ws, List.map_append, List.map_cons, List.map_nil]
            rw [w32, Int.toNat_of_nonneg hr.1]
          · intro y hy
            rcases List.mem_append.1 hy with h | h
            · exact h2 y h
            · simp at h; subst h; omega
    obtain ⟨l, h1, h2, h3⟩ := key len (Nat.le_refl _)
    rw [List.take_of_length_le (by omega)] at h1
    exact ⟨l, by rw [wl, h1, h3], h2, by omega⟩

theorem bool_of {P : Program} {t : TypeId} (hu : P.underlying t = some .bool) : ∀ {n : Nat} {L : List PV}, Shape P n t L → ∃ b, L = [.bool b]
  | 0, _, h => h.elim
  | n + 1, L, h => by unfold Shape at h; rw [hu] at h; exact h

theorem list3 {α : Type} {L : List α} {a b c : α} (h : L.length = 3) (h0 : (L.drop 0).take 1 = [a]) (h1 : (L.drop 1).take 1 = [b]) (h2 : (L.drop 2).take 1 = [c]) : L = [a, b, c] := by
  match L, h with
  | [x, y, z], _ => simp at h0 h1 h2; simp [h0, h1, h2]

theorem frac_of : ∀ {n : Nat} {L : List PV}, Shape Tryz.prog n 24 L → ∃ a : RF, L = a.cells ∧ a.wfR
  | 0, _, h => h.elim
  | n + 1, L, h => by
    have hu : Tryz.prog.underlying 24 = some (.struct #[{ name := "Neg", type := 4, offset := 0, embedded := false, tag := "", pkgPath := "", byteOffset := 0 }, { name := "N", type := 22, offset := 1, embedded := false, tag := "", pkgPath := "", byteOffset := 8 }, { name := "D", type := 22, offset := 2, embedded := false, tag := "", pkgPath := "", byteOffset := 32 }]) := by rfl
    have c0 : Tryz.prog.cellsOf 24 = 3 := by kernel_rfl
    have c1 : Tryz.prog.cellsOf 4 = 1 := by kernel_rfl
    have c2 : Tryz.prog.cellsOf 22 = 1 := by kernel_rfl
    unfold Shape at h
    rw [hu] at h
    obtain ⟨hl, hf⟩ := h
    have f0 := hf { name := "Neg", type := 4, offset := 0, embedded := false, tag := "", pkgPath := "", byteOffset := 0 } (by simp)
    have f1 := hf { name := "N", type := 22, offset := 1, embedded := false, tag := "", pkgPath := "", byteOffset := 8 } (by simp)
    have f2 := hf { name := "D", type := 22, offset := 2, embedded := false, tag := "", pkgPath := "", byteOffset := 32 } (by simp)
    simp only [c1, c2] at f0 f1 f2
    obtain ⟨b, e0⟩ := bool_of (P := Tryz.prog) rfl f0
    obtain ⟨x, e1, w1, _⟩ := limbs_of f1
    obtain ⟨y, e2, w2, _⟩ := limbs_of f2
    rw [c0] at hl
    exact ⟨⟨b, x, y⟩, list3 hl e0 e1 e2, w1, w2⟩

theorem row_of : ∀ {n : Nat} {L : List PV}, Shape Tryz.prog n 25 L → ∃ l : List RF, L = [row l] ∧ (∀ x ∈ l, x.wfR) ∧ l.length ≤ 2513169434843
  | 0, _, h => h.elim
  | n + 1, L, h => by
    have hu : Tryz.prog.underlying 25 = some (.slice 24) := by rfl
    have hc : Tryz.prog.cellsOf 24 = 3 := by kernel_rfl
    have hb : Tryz.prog.bytesOf 24 = 56 := by kernel_rfl
    unfold Shape at h
    rw [hu] at h
    obtain ⟨len, M, rfl, hM, hlen, hel⟩ := h
    rw [hb] at hlen
    unfold reachBytes at hlen
    simp only [hc] at hM hel
    have key : ∀ k, k ≤ len → ∃ l : List RF, M.take (k * 3) = rowC l ∧ (∀ x ∈ l, x.wfR) ∧ l.length = k := by
      intro k
      induction k with
      | zero => intro _; exact ⟨[], by simp [rowC], by intro x hx; simp at hx, rfl⟩
      | succ k ih =>
        intro hk
        obtain ⟨l, h1, h2, h3⟩ := ih (by omega)
        obtain ⟨a, ha, hw⟩ := frac_of (hel k (by omega))
        refine ⟨l ++ [a], ?_, ?_, by simp [h3]⟩
        · rw [Nat.succ_mul, List.take_add, h1, ha, rowC_app]
          simp [rowC]
        · intro y hy
          rcases List.mem_append.1 hy with h | h
          · exact h2 y h
          · simp at h; subst h; exact hw
    obtain ⟨l, h1, h2, h3⟩ := key len (Nat.le_refl _)
    rw [List.take_of_length_le (by omega)] at h1
    exact ⟨l, by rw [row, h1, h3], h2, by omega⟩

end Go.Proofs.YthgldcflcmlgpaaGreatDoorE
end

section
/- The law SpanPolys, of what its arguments are. -/
-- x3
set_option linter.unusedVariables false
set_option maxRecDepth 100000
set_option linter.unusedSimpArgs false
namespace Go.Proofs.YthgldcflcmlgpaaGreatDoorE
open Go.ChangeShapes Go.WideShapes Go.ChangeAt Go.RowKit
theorem frac3_of : ∀ {n : Nat} {L : List PV}, Shape Tryz.prog n 48 L → ∃ a b c : RF, L = cells3 a b c ∧ a.wfR ∧ b.wfR ∧ c.wfR
  | 0, _, h => h.elim
  | n + 1, L, h => by
    have hu : Tryz.prog.underlying 48 = some (.array 3 24) := by rfl
    have hc : Tryz.prog.cellsOf 24 = 3 := by kernel_rfl
    unfold Shape at h
    rw [hu] at h
    obtain ⟨hl, hf⟩ := h
    simp only [hc] at hl hf
    obtain ⟨a, e0, w0⟩ := frac_of (hf 0 (by decide))
    obtain ⟨b, e1, w1⟩ := frac_of (hf 1 (by decide))
    obtain ⟨c, e2, w2⟩ := frac_of (hf 2 (by decide))
    refine ⟨a, b, c, ?_, w0, w1, w2⟩
    match L, hl with
    | [x0, x1, x2, x3, x4, x5, x6, x7, x8], _ =>
      simp [RF.cells] at e0 e1 e2
      simp [cells3, e0, e1, e2]
theorem spanPolys_of {n0 n1 : Nat} {p0 : PV} {L1 : List PV} (h0 : Shape Tryz.prog n0 25 [p0]) (h1 : Shape Tryz.prog n1 48 L1) : CallOk Tryz.prog 4 [p0, .agg L1] [] (.bool true) [] := by
  obtain ⟨a, ha, wa, la⟩ := row_of h0
  injection ha with ha
  subst ha
  obtain ⟨t, h, s, rfl, wt, wh, ws_⟩ := frac3_of h1
  exact lawSpanPolys a t h s la wa wt wh ws_
end Go.Proofs.YthgldcflcmlgpaaGreatDoorE
end
