import Derived.Laws.BytesString
import Derived.Test.YthgldcflcmlgpaaGreatDoorShelf
import Derived.WalkKit
import Derived.BigCall
import Derived.Test.YthgldcflcmlgpaaGreatDoorM0
import Derived.Test.YthgldcflcmlgpaaGreatDoorM1
import Derived.Test.YthgldcflcmlgpaaGreatDoorM2
import Derived.Test.YthgldcflcmlgpaaGreatDoorM3

section
/- The derivative of a span's cubic, at a moment. -/
-- x4
set_option linter.unusedVariables false
set_option linter.unusedSimpArgs false
namespace Go.Proofs.YthgldcflcmlgpaaGreatDoorE
open Go.RowKit
set_option maxRecDepth 100000
attribute [local simp] List.getElem?_cons_zero List.getElem?_cons_succ List.getElem?_nil wrap_i64 stOf st0 effF effC evalV evalL upd_n updI_n pv_t pv_c pv_g pv_f ofConst binV binI lenV foldV mx2 mn2 unV convV extractV idxV indexV fieldAddrV fieldV partV sliceV boundsV loadL live storeE appendE srcV litE makeE IntKind.bits copyE boxE allocE flatParts flatCs flatC allParts cellsOf solid leafB fillL frzL buildV fillP placeS eqFl eqCell St.eff St.put wrs callE renP renA renC renI nid newL renB noEff endK endR resA resL resV expP expA expC expN expL expBs expB idx thenQ blockQ wantK wrap_u32 wrap_u64_in beqI bneI w32 wl fdiv_pos Int.natCast_inj effG
attribute [local simp ↓] effG effC evalV evalL pv_t pv_c pv_g pv_f upd_n updI_n live

def Spn.slopeQ (c : Spn) (s : Rat) : List Rat :=
  mixQ c.y0.length [(-(prodQ [6, c.x s, 1 + (-1) * c.x s] / c.h.q), qs c.y0), (prodQ [6, c.x s, 1 + (-1) * c.x s] / c.h.q, qs c.y1),
    (prodQ [1 + (-1) * c.x s, 1 + (-3) * c.x s], qs c.f0), (prodQ [c.x s, -2 + 3 * c.x s], qs c.f1)]

set_option maxHeartbeats 4000000 in
theorem spanSlope (c : Spn) (s : RF) (hr : c.right = true) (hs : s.ok 65536) (hc : c.ok 65536) : CallOk Tryz.prog 17 [c.pv, s.pv] [] (.tup [rowQ (c.slopeQ s.q), .bool true]) [] := by
  obtain ⟨r1, r2, r3, r4, r5⟩ := right_spec hr
  have k0 := spanRight c (hc.h.mono (by decide))
  rw [hr] at k0
  have k1 := spanPart c s (hs.mono (by decide)) (hc.t.mono (by decide)) (hc.h.mono (by decide))
  have zx := szX c s hs hc
  have k9 := spanRows c
  unfold Spn.slopeQ
  generalize c.x s.q = x at *
  have k2 := spanLinear 1 (-1) x (by decide) (by decide) (by omega)
  have z2 := szLin 1 (-1) x (by decide) (by decide) zx
  have k3 := spanLinear 1 (-3) x (by decide) (by decide) (by omega)
  have z3 := szLin 1 (-3) x (by decide) (by decide) zx
  have k4 := spanLinear (-2) 3 x (by decide) (by decide) (by omega)
  have z4 := szLin (-2) 3 x (by decide) (by decide) zx
  have k6 := fracOf 6 (by omega)
  have z6 := szQ_int 6 (by decide)
  rw [show ((1 : Int) : Rat) + ((-1 : Int) : Rat) * x = 1 + (-1) * x from rfl] at k2 z2
  rw [show ((1 : Int) : Rat) + ((-3 : Int) : Rat) * x = 1 + (-3) * x from rfl] at k3 z3
  rw [show ((-2 : Int) : Rat) + ((3 : Int) : Rat) * x = -2 + 3 * x from rfl] at k4 z4
  rw [show ((6 : Int) : Rat) = 6 from rfl] at k6 z6
  generalize (1 : Rat) + (-1) * x = y at *
  generalize (1 : Rat) + (-3) * x = l1 at *
  generalize (-2 : Rat) + 3 * x = l2 at *
  generalize (6 : Rat) = six at *
  have ox : (RF.of x).ok 200010 := RF.of_ok (by omega)
  have oy : (RF.of y).ok 200010 := RF.of_ok (by omega)
  have o6 : (RF.of six).ok 200010 := RF.of_ok (by omega)
  have o1 : (RF.of l1).ok 200010 := RF.of_ok (by omega)
  have o2 : (RF.of l2).ok 200010 := RF.of_ok (by omega)
  have oh : c.h.ok 65536 := hc.h
  have a5 : ∀ z ∈ [RF.of six, RF.of x, RF.of y], z.ok 200010 := by intro z hz; simp at hz; rcases hz with rfl | rfl | rfl <;> assumption
  have a6 : ∀ z ∈ [RF.of y, RF.of l1], z.ok 200010 := by intro z hz; simp at hz; rcases hz with rfl | rfl <;> assumption
  have a7 : ∀ z ∈ [RF.of x, RF.of l2], z.ok 200010 := by intro z hz; simp at hz; rcases hz with rfl | rfl <;> assumption
  have k5 := spanTimes [RF.of six, RF.of x, RF.of y] 200010 (by decide) a5 (by simp)
  have k7 := spanTimes [RF.of y, RF.of l1] 200010 (by decide) a6 (by simp)
  have k8 := spanTimes [RF.of x, RF.of l2] 200010 (by decide) a7 (by simp)
  have z5 := szProd _ a5 (by simp)
  have z7 := szProd _ a6 (by simp)
  have z8 := szProd _ a7 (by simp)
  simp only [qs, List.map_cons, List.map_nil, RF.of_q] at k5 k7 k8 z5 z7 z8
  clear a5 a6 a7
  generalize prodQ [six, x, y] = w0 at *
  generalize prodQ [y, l1] = w2 at *
  generalize prodQ [x, l2] = w3 at *
  have kq := rfQuo (a := RF.of w0) (b := c.h) (RF.of_ok (by omega)) (oh.mono (by decide))
  rw [RF.of_q] at kq
  have zq := szQ_div w0 c.h.q
  have zh := oh.sz (by decide)
  generalize w0 / c.h.q = w1 at *
  have kn := qNeg (p := w1) (by omega)
  have zn := szQ_neg w1
  generalize -w1 = wn at *
  generalize decide (c.h.q ≠ 0) = bq at *
  have kM := rowMix [RF.of wn, RF.of w1, RF.of w2, RF.of w3] [c.y0, c.y1, c.f0, c.f1] c.y0.length 1100000 rfl (by omega)
    (by intro l hl; simp at hl; rcases hl with rfl | rfl | rfl | rfl <;> first | rfl | assumption)
    (by intro z hz; simp at hz; rcases hz with rfl | rfl | rfl | rfl <;> exact RF.of_ok (by omega))
    (by intro l hl z hz; simp at hl; rcases hl with rfl | rfl | rfl | rfl
        · exact (hc.y0 _ hz).mono (by decide)
        · exact (hc.y1 _ hz).mono (by decide)
        · exact (hc.f0 _ hz).mono (by decide)
        · exact (hc.f1 _ hz).mono (by decide)) (by decide) (by simp)
  simp only [qs, List.map_cons, List.map_nil, RF.of_q, List.zip_cons_cons, List.zip_nil_right, List.length_cons, List.length_nil] at kM
  simp only [qs]
  have hb : c.y0.length ≤ 300 := r2
  clear z2 z3 z4 z5 z6 z7 z8 zx zq zh zn ox oy o6 o1 o2 oh hs hc hr r1 r2 r3 r4 r5
  generalize mixQ c.y0.length _ = R at *
  obtain ⟨t, h, y0, y1, f0, f1⟩ := c
  simp only [Spn.pv, Spn.cells] at *
  refine CallOk.of_wl Tryz.func17 rfl rfl rfl (Nat.le_of_ble_eq_true rfl) ?_
  (repeat (first | with_reducible refine WL.seq ?_ | with_reducible refine WL.skip ?_ | with_reducible refine WL.label ?_ | with_reducible refine WL.block ?_ | with_reducible refine WL.scope ?_ | with_reducible refine WL.nilS ?_ | with_reducible refine WL.reS ?_ | with_reducible refine WL.exS ?_ | with_reducible refine WL.nilB ?_ | with_reducible refine WL.nilT ?_ | with_reducible refine WL.exit ?_ | with_reducible refine WL.ret ?_ | with_reducible refine WL.exT ?_ | with_reducible refine WL.exB ?_ | with_reducible refine WL.exN rfl ?_ | with_reducible refine WL.reT ?_ | with_reducible refine WL.reB ?_ | ((first | refine WL.reg rfl ?_ | refine WL.regT mixed rfl ?_); (conv => { arg 3; simp [prep, prep1] }); (repeat (first | (refine runK_call ⟨_, Tryz.func20, rfl, rfl⟩ ?_ ?_; (first | rfl | focus (simp; done)); (conv => { arg 6; simp (disch := omega) [if_pos, if_neg, -litE, litF1, litF2, litF3, litF4, row, RF.pv, RF.cells, frQ, fr, RF.of] }); (first | refine callV0 (k0) rfl ?_ | (refine callV1 (k0) rfl ?_; (conv => { arg 1; simp }); refine frz1_go ?_))) | (refine runK_call ⟨_, Tryz.func61, rfl, rfl⟩ ?_ ?_; (first | rfl | focus (simp; done)); (conv => { arg 6; simp (disch := omega) [if_pos, if_neg, -litE, litF1, litF2, litF3, litF4, row, RF.pv, RF.cells, frQ, fr, RF.of] }); (first | refine callV0 (k1) rfl ?_ | (refine callV1 (k1) rfl ?_; (conv => { arg 1; simp }); refine frz1_go ?_))) | (refine runK_call ⟨_, Tryz.func62, rfl, rfl⟩ ?_ ?_; (first | rfl | focus (simp; done)); (conv => { arg 6; simp (disch := omega) [if_pos, if_neg, -litE, litF1, litF2, litF3, litF4, row, RF.pv, RF.cells, frQ, fr, RF.of] }); (first | refine callV0 (k2) rfl ?_ | (refine callV1 (k2) rfl ?_; (conv => { arg 1; simp }); refine frz1_go ?_))) | (refine runK_goM ?_ ?_; (first | rfl | focus (simp; done)); (conv => { arg 4; simp (disch := omega) [if_pos, if_neg, -litE, litF1, litF2, litF3, litF4, row, RF.pv, RF.cells, frQ, fr, RF.of] }); (first | refine contK_val ?_ | refine contK_w1 ?_ | (refine contK_w1b ?_; (conv => { arg 5; arg 3; simp })) | refine contK_n1 ?_ | (refine contK_go ?_; (conv => { arg 5; simp })))) | (refine skip_val rfl ?_ ?_; (focus (simp; done))))); with_reducible refine runK_nil ?_; (first | refine ⟨rfl, ?_⟩ | refine ⟨by simp [quietB], by simp [quietU], ?_⟩ | skip)) | (refine WL.cond ?_; (conv => { arg 1; simp (disch := omega) [if_pos, if_neg, -litE, litF1, litF2, litF3, litF4, row, RF.pv, RF.cells, frQ, fr, RF.of] }); (first | with_reducible refine condT ?_ | with_reducible refine condF ?_ | with_reducible refine condPT (by omega) ?_ | with_reducible refine condPF (by omega) ?_))))
  clear k0 k1 k2
  (repeat (first | with_reducible refine WL.seq ?_ | with_reducible refine WL.skip ?_ | with_reducible refine WL.label ?_ | with_reducible refine WL.block ?_ | with_reducible refine WL.scope ?_ | with_reducible refine WL.nilS ?_ | with_reducible refine WL.reS ?_ | with_reducible refine WL.exS ?_ | with_reducible refine WL.nilB ?_ | with_reducible refine WL.nilT ?_ | with_reducible refine WL.exit ?_ | with_reducible refine WL.ret ?_ | with_reducible refine WL.exT ?_ | with_reducible refine WL.exB ?_ | with_reducible refine WL.exN rfl ?_ | with_reducible refine WL.reT ?_ | with_reducible refine WL.reB ?_ | ((first | refine WL.reg rfl ?_ | refine WL.regT mixed rfl ?_); (conv => { arg 3; simp [prep, prep1] }); (repeat (first | (refine runK_call ⟨_, Tryz.func60, rfl, rfl⟩ ?_ ?_; (first | rfl | focus (simp; done)); (conv => { arg 6; simp (disch := omega) [if_pos, if_neg, -litE, litF1, litF2, litF3, litF4, row, RF.pv, RF.cells, frQ, fr, RF.of] }); (first | refine callV0 (k6) rfl ?_ | (refine callV1 (k6) rfl ?_; (conv => { arg 1; simp }); refine frz1_go ?_))) | (refine runK_call ⟨_, Tryz.func63, rfl, rfl⟩ ?_ ?_; (first | rfl | focus (simp; done)); (conv => { arg 6; simp (disch := omega) [if_pos, if_neg, -litE, litF1, litF2, litF3, litF4, row, RF.pv, RF.cells, frQ, fr, RF.of] }); (first | refine callV0 (k5) rfl ?_ | (refine callV1 (k5) rfl ?_; (conv => { arg 1; simp }); refine frz1_go ?_))) | (refine runK_call ⟨_, Tryz.func66, rfl, rfl⟩ ?_ ?_; (first | rfl | focus (simp; done)); (conv => { arg 6; simp (disch := omega) [if_pos, if_neg, -litE, litF1, litF2, litF3, litF4, row, RF.pv, RF.cells, frQ, fr, RF.of] }); (first | refine callV0 (kq) rfl ?_ | (refine callV1 (kq) rfl ?_; (conv => { arg 1; simp }); refine frz1_go ?_))) | (refine runK_call ⟨_, Tryz.func64, rfl, rfl⟩ ?_ ?_; (first | rfl | focus (simp; done)); (conv => { arg 6; simp (disch := omega) [if_pos, if_neg, -litE, litF1, litF2, litF3, litF4, row, RF.pv, RF.cells, frQ, fr, RF.of] }); (first | refine callV0 (kn) rfl ?_ | (refine callV1 (kn) rfl ?_; (conv => { arg 1; simp }); refine frz1_go ?_))) | (refine runK_call ⟨_, Tryz.func62, rfl, rfl⟩ ?_ ?_; (first | rfl | focus (simp; done)); (conv => { arg 6; simp (disch := omega) [if_pos, if_neg, -litE, litF1, litF2, litF3, litF4, row, RF.pv, RF.cells, frQ, fr, RF.of] }); (first | refine callV0 (k3) rfl ?_ | (refine callV1 (k3) rfl ?_; (conv => { arg 1; simp }); refine frz1_go ?_))) | (refine runK_call ⟨_, Tryz.func63, rfl, rfl⟩ ?_ ?_; (first | rfl | focus (simp; done)); (conv => { arg 6; simp (disch := omega) [if_pos, if_neg, -litE, litF1, litF2, litF3, litF4, row, RF.pv, RF.cells, frQ, fr, RF.of] }); (first | refine callV0 (k7) rfl ?_ | (refine callV1 (k7) rfl ?_; (conv => { arg 1; simp }); refine frz1_go ?_))) | (refine runK_call ⟨_, Tryz.func62, rfl, rfl⟩ ?_ ?_; (first | rfl | focus (simp; done)); (conv => { arg 6; simp (disch := omega) [if_pos, if_neg, -litE, litF1, litF2, litF3, litF4, row, RF.pv, RF.cells, frQ, fr, RF.of] }); (first | refine callV0 (k4) rfl ?_ | (refine callV1 (k4) rfl ?_; (conv => { arg 1; simp }); refine frz1_go ?_))) | (refine runK_call ⟨_, Tryz.func63, rfl, rfl⟩ ?_ ?_; (first | rfl | focus (simp; done)); (conv => { arg 6; simp (disch := omega) [if_pos, if_neg, -litE, litF1, litF2, litF3, litF4, row, RF.pv, RF.cells, frQ, fr, RF.of] }); (first | refine callV0 (k8) rfl ?_ | (refine callV1 (k8) rfl ?_; (conv => { arg 1; simp }); refine frz1_go ?_))) | (refine runK_call ⟨_, Tryz.func65, rfl, rfl⟩ ?_ ?_; (first | rfl | focus (simp; done)); (conv => { arg 6; simp (disch := omega) [if_pos, if_neg, -litE, litF1, litF2, litF3, litF4, row, RF.pv, RF.cells, frQ, fr, RF.of] }); (first | refine callV0 (k9) rfl ?_ | (refine callV1 (k9) rfl ?_; (conv => { arg 1; simp }); refine frz1_go ?_))) | (refine runK_call ⟨_, Tryz.func47, rfl, rfl⟩ ?_ ?_; (first | rfl | focus (simp; done)); (conv => { arg 6; simp (disch := omega) [if_pos, if_neg, -litE, litF1, litF2, litF3, litF4, row, RF.pv, RF.cells, frQ, fr, RF.of] }); (first | refine callV0 (kM) rfl ?_ | (refine callV1 (kM) rfl ?_; (conv => { arg 1; simp }); refine frz1_go ?_))) | (refine runK_goM ?_ ?_; (first | rfl | focus (simp; done)); (conv => { arg 4; simp (disch := omega) [if_pos, if_neg, -litE, litF1, litF2, litF3, litF4, row, RF.pv, RF.cells, frQ, fr, RF.of] }); (first | refine contK_val ?_ | refine contK_w1 ?_ | (refine contK_w1b ?_; (conv => { arg 5; arg 3; simp })) | refine contK_n1 ?_ | (refine contK_go ?_; (conv => { arg 5; simp })))) | (refine skip_val rfl ?_ ?_; (focus (simp; done))))); with_reducible refine runK_nil ?_; (first | refine ⟨rfl, ?_⟩ | refine ⟨by simp [quietB], by simp [quietU], ?_⟩ | skip)) | (refine WL.cond ?_; (conv => { arg 1; simp (disch := omega) [if_pos, if_neg, -litE, litF1, litF2, litF3, litF4, row, RF.pv, RF.cells, frQ, fr, RF.of] }); (first | with_reducible refine condT ?_ | with_reducible refine condF ?_ | with_reducible refine condPT (by omega) ?_ | with_reducible refine condPF (by omega) ?_))))
  refine ⟨[], ?_⟩
  simp (disch := omega) [if_pos, if_neg, rowQ, row]
end Go.Proofs.YthgldcflcmlgpaaGreatDoorE
end

section
/- Polynomials: trimmed, their values, their derivatives; a cubic by its ends is just the polynomial (plain). -/
set_option linter.unusedVariables false
set_option linter.unusedSimpArgs false
namespace Go.Proofs.YthgldcflcmlgpaaGreatDoorE
open Go.RowKit

def lastNZ (l : List Rat) : Nat → Nat
  | 0 => 0
  | n + 1 => if l.getD n 0 = 0 then lastNZ l n else n + 1
def trimQ (l : List Rat) : List Rat := l.take (lastNZ l l.length)
def evalQ (l : List Rat) (x : Rat) : Rat := l.foldr (fun a s => s * x + a) 0
def diffL (l : List Rat) : List Rat := (List.range (l.length - 1)).map fun i => (((i + 1 : Nat) : Int) : Rat) * l.getD (i + 1) 0

theorem lastNZ_le (l : List Rat) : ∀ n, lastNZ l n ≤ n
  | 0 => Nat.le_refl _
  | n + 1 => by
    unfold lastNZ
    split
    · have := lastNZ_le l n; omega
    · omega
theorem evalQ_snoc0 (l : List Rat) (x : Rat) : evalQ (l ++ [0]) x = evalQ l x := by
  unfold evalQ; rw [List.foldr_append]
  simp [Rat.zero_mul, Rat.add_zero]
theorem evalQ_last (l : List Rat) (x : Rat) : ∀ n, n ≤ l.length → evalQ (l.take (lastNZ l n)) x = evalQ (l.take n) x
  | 0, _ => rfl
  | n + 1, h => by
    unfold lastNZ
    split
    · rename_i h0
      rw [evalQ_last l x n (by omega)]
      have hl : n < l.length := by omega
      rw [List.take_succ_eq_append_getElem hl]
      rw [List.getD_eq_getElem?_getD, List.getElem?_eq_getElem hl, Option.getD_some] at h0
      rw [h0, evalQ_snoc0]
    · rfl
theorem evalQ_trim (l : List Rat) (x : Rat) : evalQ (trimQ l) x = evalQ l x := by
  unfold trimQ; rw [evalQ_last l x _ (Nat.le_refl _), List.take_length]

theorem eval4 (l : List Rat) (h : l.length ≤ 4) (x : Rat) : evalQ l x = l.getD 0 0 + l.getD 1 0 * x + l.getD 2 0 * x * x + l.getD 3 0 * x * x * x := by
  match l, h with
  | [], _ => simp [evalQ]; try grind
  | [a], _ => simp [evalQ]; try grind
  | [a, b], _ => simp [evalQ]; try grind
  | [a, b, c], _ => simp [evalQ]; try grind
  | [a, b, c, d], _ => simp [evalQ]; try grind
theorem diff4 (l : List Rat) (h : l.length ≤ 4) (x : Rat) : evalQ (diffL l) x = l.getD 1 0 + 2 * l.getD 2 0 * x + 3 * l.getD 3 0 * x * x := by
  have e1 : (((1 : Nat) : Int) : Rat) = 1 := rfl
  have e2 : (((1 + 1 : Nat) : Int) : Rat) = 2 := rfl
  have e3 : (((2 + 1 : Nat) : Int) : Rat) = 3 := rfl
  match l, h with
  | [], _ => simp [evalQ, diffL]; try grind
  | [a], _ => simp [evalQ, diffL]; try grind
  | [a, b], _ => simp [evalQ, diffL, List.range_succ]; try grind
  | [a, b, c], _ => simp [evalQ, diffL, List.range_succ]; try grind
  | [a, b, c, d], _ => simp [evalQ, diffL, List.range_succ]; try grind

theorem at_poly (a0 a1 a2 a3 t h x : Rat) :
   0 + (1 * (1 + (-1) * x) * (1 + (-1) * x) * (1 + 2 * x)) * (a0 + a1 * t + a2 * t * t + a3 * t * t * t) + (1 * x * x * (3 + (-2) * x)) * (a0 + a1 * (t + h) + a2 * (t + h) * (t + h) + a3 * (t + h) * (t + h) * (t + h))
   + (1 * h * x * (1 + (-1) * x) * (1 + (-1) * x)) * (a1 + 2 * a2 * t + 3 * a3 * t * t) + (1 * h * x * x * (-(1 + (-1) * x))) * (a1 + 2 * a2 * (t + h) + 3 * a3 * (t + h) * (t + h))
   = a0 + a1 * (t + h * x) + a2 * (t + h * x) * (t + h * x) + a3 * (t + h * x) * (t + h * x) * (t + h * x) := by grind
theorem slope_poly (a0 a1 a2 a3 t h x w : Rat) (hw : w * h = 6 * x * (1 + (-1) * x)) :
   0 + (-w) * (a0 + a1 * t + a2 * t * t + a3 * t * t * t) + w * (a0 + a1 * (t + h) + a2 * (t + h) * (t + h) + a3 * (t + h) * (t + h) * (t + h))
   + (1 * (1 + (-1) * x) * (1 + (-3) * x)) * (a1 + 2 * a2 * t + 3 * a3 * t * t) + (1 * x * (-2 + 3 * x)) * (a1 + 2 * a2 * (t + h) + 3 * a3 * (t + h) * (t + h))
   = a1 + 2 * a2 * (t + h * x) + 3 * a3 * (t + h * x) * (t + h * x) := by
  have e : (-w) * (a0 + a1 * t + a2 * t * t + a3 * t * t * t) + w * (a0 + a1 * (t + h) + a2 * (t + h) * (t + h) + a3 * (t + h) * (t + h) * (t + h)) = (w * h) * (a1 + a2 * (2 * t + h) + a3 * (3 * t * t + 3 * t * h + h * h)) := by grind
  rw [Rat.add_assoc 0, e, hw]; grind

theorem polyAt (l : List Rat) (hl : l.length ≤ 4) (t h s : Rat) (hh : h ≠ 0) (x : Rat) (hx : x = (s - t) / h) :
    mixQ 1 [(prodQ [1 + (-1) * x, 1 + (-1) * x, 1 + 2 * x], [evalQ l t]), (prodQ [x, x, 3 + (-2) * x], [evalQ l (t + h)]),
     (prodQ [h, x, 1 + (-1) * x, 1 + (-1) * x], [evalQ (trimQ (diffL l)) t]), (prodQ [h, x, x, -(1 + (-1) * x)], [evalQ (trimQ (diffL l)) (t + h)])] = [evalQ l s] := by
  have e : s = t + h * x := by rw [hx, Rat.div_def]; grind
  simp only [evalQ_trim, mixQ, addRow, zeroQ, prodQ, List.foldl_cons, List.foldl_nil, List.replicate_succ, List.replicate_zero, List.zipWith_cons_cons, List.zipWith_nil_right]
  rw [diff4 l hl, diff4 l hl, eval4 l hl, eval4 l hl, eval4 l hl, at_poly, ← e]
theorem polySlope (l : List Rat) (hl : l.length ≤ 4) (t h s : Rat) (hh : h ≠ 0) (x : Rat) (hx : x = (s - t) / h) :
    mixQ 1 [(-(prodQ [6, x, 1 + (-1) * x] / h), [evalQ l t]), (prodQ [6, x, 1 + (-1) * x] / h, [evalQ l (t + h)]),
     (prodQ [1 + (-1) * x, 1 + (-3) * x], [evalQ (trimQ (diffL l)) t]), (prodQ [x, -2 + 3 * x], [evalQ (trimQ (diffL l)) (t + h)])] = [evalQ (trimQ (diffL l)) s] := by
  have e : s = t + h * x := by rw [hx, Rat.div_def]; grind
  simp only [evalQ_trim, mixQ, addRow, zeroQ, prodQ, List.foldl_cons, List.foldl_nil, List.replicate_succ, List.replicate_zero, List.zipWith_cons_cons, List.zipWith_nil_right]
  rw [diff4 l hl, diff4 l hl, diff4 l hl, eval4 l hl, eval4 l hl, slope_poly, ← e]
  rw [Rat.div_def]; grind
end Go.Proofs.YthgldcflcmlgpaaGreatDoorE
end

section
/- Rows so many times; polynomials trimmed, their values, their derivatives; a fraction without its sign. -/
-- x3
set_option linter.unusedVariables false
set_option linter.unusedSimpArgs false
namespace Go.Proofs.YthgldcflcmlgpaaGreatDoorE
open Go.RowKit
set_option maxRecDepth 100000
attribute [local simp] List.getElem?_cons_zero List.getElem?_cons_succ List.getElem?_nil wrap_i64 stOf st0 effF effC evalV evalL upd_n updI_n pv_t pv_c pv_g pv_f ofConst binV binI lenV foldV mx2 mn2 unV convV extractV idxV indexV fieldAddrV fieldV partV sliceV boundsV loadL live storeE appendE srcV litE makeE IntKind.bits copyE boxE allocE flatParts flatCs flatC allParts cellsOf solid leafB fillL frzL buildV fillP placeS eqFl eqCell St.eff St.put wrs callE renP renA renC renI nid newL renB noEff endK endR resA resL resV expP expA expC expN expL expBs expB idx thenQ blockQ wantK wrap_u32 wrap_u64_in beqI bneI w32 wl fdiv_pos Int.natCast_inj

def absQ (q : Rat) : Rat := if q < 0 then -q else q
theorem num_neg_iff (q : Rat) : q.num < 0 ↔ q < 0 := by
  have := Rat.num_nonneg (q := q)
  rw [← Rat.not_le, ← this]; omega
theorem frQ_abs (q : Rat) : frQ (absQ q) = fr false (nw q.num.natAbs) (nw q.den) := by
  unfold frQ absQ
  split
  · rename_i h
    have := (num_neg_iff q).2 h
    rw [Rat.neg_num, Rat.neg_den, Int.natAbs_neg, decide_eq_false (by omega)]
  · rename_i h
    rw [decide_eq_false (fun h2 => h ((num_neg_iff q).1 h2))]
theorem rfAbs {a : RF} (ha : a.ok 68719476736) : CallOk Tryz.prog 27 [a.pv] [] (frQ (absQ a.q)) [] := by
  have c1 := fracNorm a.neg a.n a.d ha.wn ha.wd ha.ln ha.ld
  rw [frQ_abs, show a.q = qv a.neg a.n a.d from rfl]
  unfold frQ at c1
  generalize qv a.neg a.n a.d = q at *
  generalize decide (q.num < 0) = b at *
  generalize nw q.num.natAbs = N at *
  generalize nw q.den = D at *
  refine CallOk.of_wl Tryz.func27 rfl rfl rfl (Nat.le_of_ble_eq_true rfl) ?_
  (repeat (first | with_reducible refine WL.seq ?_ | with_reducible refine WL.skip ?_ | with_reducible refine WL.label ?_ | with_reducible refine WL.block ?_ | with_reducible refine WL.scope ?_ | with_reducible refine WL.nilS ?_ | with_reducible refine WL.reS ?_ | with_reducible refine WL.exS ?_ | with_reducible refine WL.nilB ?_ | with_reducible refine WL.nilT ?_ | with_reducible refine WL.exit ?_ | with_reducible refine WL.ret ?_ | with_reducible refine WL.exT ?_ | with_reducible refine WL.exB ?_ | with_reducible refine WL.exN rfl ?_ | with_reducible refine WL.reT ?_ | with_reducible refine WL.reB ?_ | ((first | refine WL.reg rfl ?_ | refine WL.regT mixed rfl ?_); (conv => { arg 3; simp [prep, prep1] }); (repeat (first | (refine runK_go ?_ ?_; (focus (simp; done)); (conv => { arg 4; simp (disch := omega) [if_pos, if_neg, fr, RF.pv, RF.cells] }); (first | refine contK_val ?_ | (refine contK_go ?_; (conv => { arg 5; simp })))) | (refine skip_val rfl ?_ ?_; (focus (simp; done))) | (refine runK_go ?_ ?_; (focus (simp; done)); (conv => { arg 4; simp (disch := omega) [if_pos, if_neg, fr, RF.pv, RF.cells] }); refine callU true rfl rfl ⟨_, Tryz.func78, rfl, rfl⟩ ?_; (conv => { arg 6; simp (disch := omega) [if_pos, if_neg, fr, RF.pv, RF.cells] }); refine callC_go (c1) rfl ?_; (conv => { arg 5; simp (disch := omega) [if_pos, if_neg, fr, RF.pv, RF.cells] })))); with_reducible refine runK_nil ?_; (first | refine ⟨rfl, ?_⟩ | refine ⟨by simp [quietB], by simp [quietU], ?_⟩ | skip)) | (refine WL.cond ?_; (conv => { arg 1; simp (disch := omega) [if_pos, if_neg, fr, RF.pv, RF.cells] }); (first | with_reducible refine condT ?_ | with_reducible refine condF ?_ | with_reducible refine condPT (by omega) ?_ | with_reducible refine condPF (by omega) ?_))))
  refine ⟨[], ?_⟩
  simp (disch := omega) [if_pos, if_neg, fr]

def scaleQ (c : Rat) (l : List Rat) : List Rat := l.map (c * ·)
theorem rowScale (c : RF) (l : List RF) (hc : c.ok 68719476736) (hl : ∀ x ∈ l, x.ok 68719476736) (hll : l.length ≤ 1000000) :
    CallOk Tryz.prog 41 [c.pv, row l] [] (rowQ (scaleQ c.q (qs l))) [] := by
  have hlen := rowC_len l
  refine CallOk.of_wl Tryz.func41 rfl rfl rfl (Nat.le_of_ble_eq_true rfl) ?_
  (repeat (first | with_reducible refine WL.seq ?_ | with_reducible refine WL.skip ?_ | with_reducible refine WL.label ?_ | with_reducible refine WL.block ?_ | with_reducible refine WL.scope ?_ | with_reducible refine WL.nilS ?_ | with_reducible refine WL.reS ?_ | with_reducible refine WL.exS ?_ | with_reducible refine WL.nilB ?_ | with_reducible refine WL.nilT ?_ | with_reducible refine WL.exit ?_ | with_reducible refine WL.ret ?_ | with_reducible refine WL.exT ?_ | with_reducible refine WL.exB ?_ | with_reducible refine WL.exN rfl ?_ | with_reducible refine WL.reT ?_ | with_reducible refine WL.reB ?_ | ((first | refine WL.reg rfl ?_ | refine WL.regT mixed rfl ?_); (conv => { arg 3; simp [prep, prep1] }); (repeat (first | (refine runK_go ?_ ?_; (focus (simp; done)); (conv => { arg 4; simp (disch := omega) [if_pos, if_neg, row, RF.pv, RF.cells] }); (first | refine contK_val ?_ | (refine contK_go ?_; (conv => { arg 5; simp })))) | (refine skip_val rfl ?_ ?_; (focus (simp; done))))); with_reducible refine runK_nil ?_; (first | refine ⟨rfl, ?_⟩ | refine ⟨by simp [quietB], by simp [quietU], ?_⟩ | skip)) | (refine WL.cond ?_; (conv => { arg 1; simp (disch := omega) [if_pos, if_neg, row, RF.pv, RF.cells] }); (first | with_reducible refine condT ?_ | with_reducible refine condF ?_ | with_reducible refine condPT (by omega) ?_ | with_reducible refine condPF (by omega) ?_))))
  refine WL.loop (fun m s => ∃ i : Nat, m = l.length - i ∧ i ≤ l.length ∧ s.frame 2 = .pt ⟨2, 0, 0⟩ 0 0 ∧ s.frame 8 = row l ∧ s.frame 9 = .int .i64 l.length ∧ s.frame 10 = .int .i64 i ∧
    s.store ⟨2, 0, 0⟩ = some ⟨0, true, false, c.cells⟩ ∧
    ((i = 0 ∧ s.frame 5 = .nilS) ∨ ∃ G v, s.frame 5 = .sl ⟨19, G, 0⟩ v 0 i 3 ∧ s.store ⟨19, G, 0⟩ = some ⟨v, true, true, rowC ((scaleQ c.q (qs (l.take i))).map RF.of)⟩)) l.length ?_ ?_
  · exact ⟨0, by omega, by omega, by simp, by simp [row], by simp, by simp, by simp [RF.cells], .inl ⟨rfl, by simp⟩⟩
  rintro m ⟨f, σ, g⟩ ⟨i, rfl, hi, h2, h8, h9, h10, hs2, h5⟩
  simp only at h2 h8 h9 h10 hs2 h5
  by_cases hi' : i < l.length
  · have rx := rowC_at hi'
    have h3l : 3 ≤ (rowC l).length - i * 3 := by omega
    have htk : rowC ((scaleQ c.q (qs (l.take (i + 1)))).map RF.of) = rowC ((scaleQ c.q (qs (l.take i))).map RF.of) ++ (RF.of (c.q * (l[i]'hi').q)).cells := by
      rw [List.take_succ_eq_append_getElem hi']
      simp only [qs, scaleQ, List.map_append, List.map_cons, List.map_nil, rowC_app]
      simp [rowC]
    have c1 := rfMul hc (hl _ (List.getElem_mem hi'))
    generalize l[i]'hi' = x at *
    generalize c.q * x.q = w at *
    rcases h5 with ⟨rfl, h5⟩ | ⟨G, v, h5, hst⟩
    · have htk0 : rowC ((scaleQ c.q (qs (l.take 1))).map RF.of) = (RF.of w).cells := by simpa [rowC, qs, scaleQ] using htk
      have rx0 : (rowC l).take 3 = x.cells := by simpa using rx
      have h3l0 : 3 ≤ l.length * 3 := by omega
      (repeat (first | with_reducible refine WL.seq ?_ | with_reducible refine WL.skip ?_ | with_reducible refine WL.label ?_ | with_reducible refine WL.block ?_ | with_reducible refine WL.scope ?_ | with_reducible refine WL.nilS ?_ | with_reducible refine WL.reS ?_ | with_reducible refine WL.exS ?_ | with_reducible refine WL.nilB ?_ | with_reducible refine WL.nilT ?_ | with_reducible refine WL.exit ?_ | with_reducible refine WL.ret ?_ | with_reducible refine WL.exT ?_ | with_reducible refine WL.exB ?_ | with_reducible refine WL.exN rfl ?_ | with_reducible refine WL.reT ?_ | with_reducible refine WL.reB ?_ | ((first | refine WL.reg rfl ?_ | refine WL.regT mixed rfl ?_); (conv => { arg 3; simp [prep, prep1] }); (repeat (first | (refine runK_go ?_ ?_; (focus (simp; done)); (conv => { arg 4; simp (disch := omega) [if_pos, if_neg, h2, hs2, h8, h9, h10, row, hi', hlen, rx0, h3l0, RF.pv, RF.cells, h5, frQ, fr] }); (first | refine contK_val ?_ | (refine contK_go ?_; (conv => { arg 5; simp })))) | (refine skip_val rfl ?_ ?_; (focus (simp; done))) | (refine runK_go ?_ ?_; (focus (simp; done)); (conv => { arg 4; simp (disch := omega) [if_pos, if_neg, h2, hs2, h8, h9, h10, row, hi', hlen, rx0, h3l0, RF.pv, RF.cells, h5, frQ, fr] }); refine callU true rfl rfl ⟨_, Tryz.func50, rfl, rfl⟩ ?_; (conv => { arg 6; simp (disch := omega) [if_pos, if_neg, h2, hs2, h8, h9, h10, row, hi', hlen, rx0, h3l0, RF.pv, RF.cells, h5, frQ, fr] }); refine callC_go (c1) rfl ?_; (conv => { arg 5; simp (disch := omega) [if_pos, if_neg, h2, hs2, h8, h9, h10, row, hi', hlen, rx0, h3l0, RF.pv, RF.cells, h5, frQ, fr] })))); with_reducible refine runK_nil ?_; (first | refine ⟨rfl, ?_⟩ | refine ⟨by simp [quietB], by simp [quietU], ?_⟩ | skip)) | (refine WL.cond ?_; (conv => { arg 1; simp (disch := omega) [if_pos, if_neg, h2, hs2, h8, h9, h10, row, hi', hlen, rx0, h3l0, RF.pv, RF.cells, h5, frQ, fr] }); (first | with_reducible refine condT ?_ | with_reducible refine condF ?_ | with_reducible refine condPT (by omega) ?_ | with_reducible refine condPF (by omega) ?_))))
      exact ⟨l.length - 1, by omega, 1, rfl, by omega, by simp [h2], by simp [h8, row], by simp [h9], by simp, by simp [hs2, RF.cells], .inr ⟨g 19, 0, by simp, by simp [htk0, RF.cells_of]⟩⟩
    · have hlt := rowC_len ((scaleQ c.q (qs (l.take i))).map RF.of)
      have hlt2 : ((scaleQ c.q (qs (l.take i))).map RF.of).length = i := by simp [scaleQ, qs]; omega
      rw [hlt2] at hlt
      generalize rowC ((scaleQ c.q (qs (l.take i))).map RF.of) = A at *
      have htk1 : A.take (i * 3) = A := List.take_of_length_le (by omega)
      (repeat (first | with_reducible refine WL.seq ?_ | with_reducible refine WL.skip ?_ | with_reducible refine WL.label ?_ | with_reducible refine WL.block ?_ | with_reducible refine WL.scope ?_ | with_reducible refine WL.nilS ?_ | with_reducible refine WL.reS ?_ | with_reducible refine WL.exS ?_ | with_reducible refine WL.nilB ?_ | with_reducible refine WL.nilT ?_ | with_reducible refine WL.exit ?_ | with_reducible refine WL.ret ?_ | with_reducible refine WL.exT ?_ | with_reducible refine WL.exB ?_ | with_reducible refine WL.exN rfl ?_ | with_reducible refine WL.reT ?_ | with_reducible refine WL.reB ?_ | ((first | refine WL.reg rfl ?_ | refine WL.regT mixed rfl ?_); (conv => { arg 3; simp [prep, prep1] }); (repeat (first | (refine runK_go ?_ ?_; (focus (simp; done)); (conv => { arg 4; simp (disch := omega) [if_pos, if_neg, h2, hs2, h8, h9, h10, row, hi', hlen, rx, h3l, RF.pv, RF.cells, h5, hst, hlt, htk1, frQ, fr] }); (first | refine contK_val ?_ | (refine contK_go ?_; (conv => { arg 5; simp })))) | (refine skip_val rfl ?_ ?_; (focus (simp; done))) | (refine runK_go ?_ ?_; (focus (simp; done)); (conv => { arg 4; simp (disch := omega) [if_pos, if_neg, h2, hs2, h8, h9, h10, row, hi', hlen, rx, h3l, RF.pv, RF.cells, h5, hst, hlt, htk1, frQ, fr] }); refine callU true rfl rfl ⟨_, Tryz.func50, rfl, rfl⟩ ?_; (conv => { arg 6; simp (disch := omega) [if_pos, if_neg, h2, hs2, h8, h9, h10, row, hi', hlen, rx, h3l, RF.pv, RF.cells, h5, hst, hlt, htk1, frQ, fr] }); refine callC_go (c1) rfl ?_; (conv => { arg 5; simp (disch := omega) [if_pos, if_neg, h2, hs2, h8, h9, h10, row, hi', hlen, rx, h3l, RF.pv, RF.cells, h5, hst, hlt, htk1, frQ, fr] })))); with_reducible refine runK_nil ?_; (first | refine ⟨rfl, ?_⟩ | refine ⟨by simp [quietB], by simp [quietU], ?_⟩ | skip)) | (refine WL.cond ?_; (conv => { arg 1; simp (disch := omega) [if_pos, if_neg, h2, hs2, h8, h9, h10, row, hi', hlen, rx, h3l, RF.pv, RF.cells, h5, hst, hlt, htk1, frQ, fr] }); (first | with_reducible refine condT ?_ | with_reducible refine condF ?_ | with_reducible refine condPT (by omega) ?_ | with_reducible refine condPF (by omega) ?_))))
      exact ⟨l.length - (i + 1), by omega, i + 1, rfl, by omega, by simp [h2], by simp [h8, row], by simp [h9], by simp, by simp [hs2, RF.cells], .inr ⟨G, v + 1, by simp, by simp [htk, RF.cells_of]⟩⟩
  · have hia : i = l.length := by omega
    subst hia
    rcases h5 with ⟨h0', h5⟩ | ⟨G, v, h5, hst⟩
    · have : l = [] := List.eq_nil_of_length_eq_zero h0'
      subst this
      (repeat (first | with_reducible refine WL.seq ?_ | with_reducible refine WL.skip ?_ | with_reducible refine WL.label ?_ | with_reducible refine WL.block ?_ | with_reducible refine WL.scope ?_ | with_reducible refine WL.nilS ?_ | with_reducible refine WL.reS ?_ | with_reducible refine WL.exS ?_ | with_reducible refine WL.nilB ?_ | with_reducible refine WL.nilT ?_ | with_reducible refine WL.exit ?_ | with_reducible refine WL.ret ?_ | with_reducible refine WL.exT ?_ | with_reducible refine WL.exB ?_ | with_reducible refine WL.exN rfl ?_ | with_reducible refine WL.reT ?_ | with_reducible refine WL.reB ?_ | ((first | refine WL.reg rfl ?_ | refine WL.regT mixed rfl ?_); (conv => { arg 3; simp [prep, prep1] }); (repeat (first | (refine runK_go ?_ ?_; (focus (simp; done)); (conv => { arg 4; simp (disch := omega) [if_pos, if_neg, h9, h10, row, h5] }); (first | refine contK_val ?_ | (refine contK_go ?_; (conv => { arg 5; simp })))) | (refine skip_val rfl ?_ ?_; (focus (simp; done))))); with_reducible refine runK_nil ?_; (first | refine ⟨rfl, ?_⟩ | refine ⟨by simp [quietB], by simp [quietU], ?_⟩ | skip)) | (refine WL.cond ?_; (conv => { arg 1; simp (disch := omega) [if_pos, if_neg, h9, h10, row, h5] }); (first | with_reducible refine condT ?_ | with_reducible refine condF ?_ | with_reducible refine condPT (by omega) ?_ | with_reducible refine condPF (by omega) ?_))))
      refine ⟨[], ?_⟩
      simp (disch := omega) [if_pos, if_neg, row, rowC, rowQ, scaleQ, qs]
    · rw [List.take_length] at hst
      have hlt := rowC_len ((scaleQ c.q (qs l)).map RF.of)
      have hlt2 : ((scaleQ c.q (qs l)).map RF.of).length = l.length := by simp [scaleQ, qs]
      rw [hlt2] at hlt
      unfold rowQ row
      rw [hlt2]
      generalize rowC ((scaleQ c.q (qs l)).map RF.of) = A at *
      have htk1 : A.take (l.length * 3) = A := List.take_of_length_le (by omega)
      (repeat (first | with_reducible refine WL.seq ?_ | with_reducible refine WL.skip ?_ | with_reducible refine WL.label ?_ | with_reducible refine WL.block ?_ | with_reducible refine WL.scope ?_ | with_reducible refine WL.nilS ?_ | with_reducible refine WL.reS ?_ | with_reducible refine WL.exS ?_ | with_reducible refine WL.nilB ?_ | with_reducible refine WL.nilT ?_ | with_reducible refine WL.exit ?_ | with_reducible refine WL.ret ?_ | with_reducible refine WL.exT ?_ | with_reducible refine WL.exB ?_ | with_reducible refine WL.exN rfl ?_ | with_reducible refine WL.reT ?_ | with_reducible refine WL.reB ?_ | ((first | refine WL.reg rfl ?_ | refine WL.regT mixed rfl ?_); (conv => { arg 3; simp [prep, prep1] }); (repeat (first | (refine runK_go ?_ ?_; (focus (simp; done)); (conv => { arg 4; simp (disch := omega) [if_pos, if_neg, h9, h10, row, h5, hst] }); (first | refine contK_val ?_ | (refine contK_go ?_; (conv => { arg 5; simp })))) | (refine skip_val rfl ?_ ?_; (focus (simp; done))))); with_reducible refine runK_nil ?_; (first | refine ⟨rfl, ?_⟩ | refine ⟨by simp [quietB], by simp [quietU], ?_⟩ | skip)) | (refine WL.cond ?_; (conv => { arg 1; simp (disch := omega) [if_pos, if_neg, h9, h10, row, h5, hst] }); (first | with_reducible refine condT ?_ | with_reducible refine condF ?_ | with_reducible refine condPT (by omega) ?_ | with_reducible refine condPF (by omega) ?_))))
      refine ⟨[], ?_⟩
      simp (disch := omega) [if_pos, if_neg, hst, hlt, htk1]

theorem szQ_scale1 (l : List RF) : scaleQ 1 (qs l) = qs l := by simp [scaleQ, Rat.one_mul]
theorem rowC_takeQ (l : List Rat) (i : Nat) : (rowC (l.map RF.of)).take (i * 3) = rowC ((l.take i).map RF.of) := by rw [rowC_take, List.map_take]
theorem qok {a : RF} {K : Nat} (h : a.ok K) (hK : 1 ≤ K) : (RF.of a.q).ok K := RF.of_ok (h.sz hK)

theorem polyNorm (l : List RF) (hl : ∀ x ∈ l, x.ok 68719476736) (hll : l.length ≤ 1000000) :
    CallOk Tryz.prog 77 [row l] [] (rowQ (trimQ (qs l))) [] := by
  have c1 := fracOf 1 (by omega)
  rw [show ((1 : Int) : Rat) = 1 from rfl] at c1
  have o1 : (RF.of 1).ok 68719476736 := RF.of_ok (Nat.le_trans szQ_one (by decide))
  have c2 := rowScale (RF.of 1) l o1 hl hll
  rw [RF.of_q, szQ_scale1] at c2
  have hq : ∀ q ∈ qs l, szQ q ≤ 68719476736 := fun q hq => by
    obtain ⟨x, hx, rfl⟩ := List.mem_map.1 hq
    exact (hl x hx).sz (by decide)
  have hlQ : (qs l).length = l.length := by simp [qs]
  unfold trimQ
  rw [hlQ]
  rw [show frQ 1 = (RF.of 1).pv from rfl] at c1
  generalize RF.of 1 = r1 at *
  generalize qs l = Q at *
  have hlen := rowC_len (Q.map RF.of)
  have hQl : (Q.map RF.of).length = l.length := by simp [hlQ]
  rw [hQl] at hlen
  simp only [rowQ, row, hQl] at c2
  refine CallOk.of_wl Tryz.func77 rfl rfl rfl (Nat.le_of_ble_eq_true rfl) ?_
  (repeat (first | with_reducible refine WL.seq ?_ | with_reducible refine WL.skip ?_ | with_reducible refine WL.label ?_ | with_reducible refine WL.block ?_ | with_reducible refine WL.scope ?_ | with_reducible refine WL.nilS ?_ | with_reducible refine WL.reS ?_ | with_reducible refine WL.exS ?_ | with_reducible refine WL.nilB ?_ | with_reducible refine WL.nilT ?_ | with_reducible refine WL.exit ?_ | with_reducible refine WL.ret ?_ | with_reducible refine WL.exT ?_ | with_reducible refine WL.exB ?_ | with_reducible refine WL.exN rfl ?_ | with_reducible refine WL.reT ?_ | with_reducible refine WL.reB ?_ | ((first | refine WL.reg rfl ?_ | refine WL.regT mixed rfl ?_); (conv => { arg 3; simp [prep, prep1] }); (repeat (first | (refine runK_go ?_ ?_; (focus (simp; done)); (conv => { arg 4; simp (disch := omega) [if_pos, if_neg, row, RF.pv, RF.cells] }); (first | refine contK_val ?_ | (refine contK_go ?_; (conv => { arg 5; simp })))) | (refine skip_val rfl ?_ ?_; (focus (simp; done))) | (refine runK_go ?_ ?_; (focus (simp; done)); (conv => { arg 4; simp (disch := omega) [if_pos, if_neg, row, RF.pv, RF.cells] }); refine callU true rfl rfl ⟨_, Tryz.func60, rfl, rfl⟩ ?_; (conv => { arg 6; simp (disch := omega) [if_pos, if_neg, row, RF.pv, RF.cells] }); refine callC_go (c1) rfl ?_; (conv => { arg 5; simp (disch := omega) [if_pos, if_neg, row, RF.pv, RF.cells] })) | (refine runK_go ?_ ?_; (focus (simp; done)); (conv => { arg 4; simp (disch := omega) [if_pos, if_neg, row, RF.pv, RF.cells] }); refine callU true rfl rfl ⟨_, Tryz.func41, rfl, rfl⟩ ?_; (conv => { arg 6; simp (disch := omega) [if_pos, if_neg, row, RF.pv, RF.cells] }); refine callC_go (c2) rfl ?_; (conv => { arg 5; simp (disch := omega) [if_pos, if_neg, row, RF.pv, RF.cells] })))); with_reducible refine runK_nil ?_; (first | refine ⟨rfl, ?_⟩ | refine ⟨by simp [quietB], by simp [quietU], ?_⟩ | skip)) | (refine WL.cond ?_; (conv => { arg 1; simp (disch := omega) [if_pos, if_neg, row, RF.pv, RF.cells] }); (first | with_reducible refine condT ?_ | with_reducible refine condF ?_ | with_reducible refine condPT (by omega) ?_ | with_reducible refine condPF (by omega) ?_))))
  refine WL.loop (fun m s => m ≤ l.length ∧ s.frame 3 = .rd (rowC (Q.map RF.of)) l.length ∧ s.frame 4 = .int .i64 m ∧ lastNZ Q m = lastNZ Q l.length) l.length ?_ ?_
  · exact ⟨by omega, by simp, by simp, rfl⟩
  rintro m ⟨f, σ, g⟩ ⟨hm, h3, h4, hL⟩
  simp only at h3 h4
  cases m with
  | zero =>
    (repeat (first | with_reducible refine WL.seq ?_ | with_reducible refine WL.skip ?_ | with_reducible refine WL.label ?_ | with_reducible refine WL.block ?_ | with_reducible refine WL.scope ?_ | with_reducible refine WL.nilS ?_ | with_reducible refine WL.reS ?_ | with_reducible refine WL.exS ?_ | with_reducible refine WL.nilB ?_ | with_reducible refine WL.nilT ?_ | with_reducible refine WL.exit ?_ | with_reducible refine WL.ret ?_ | with_reducible refine WL.exT ?_ | with_reducible refine WL.exB ?_ | with_reducible refine WL.exN rfl ?_ | with_reducible refine WL.reT ?_ | with_reducible refine WL.reB ?_ | ((first | refine WL.reg rfl ?_ | refine WL.regT mixed rfl ?_); (conv => { arg 3; simp [prep, prep1] }); (repeat (first | (refine runK_go ?_ ?_; (focus (simp; done)); (conv => { arg 4; simp (disch := omega) [if_pos, if_neg, h3, h4] }); (first | refine contK_val ?_ | (refine contK_go ?_; (conv => { arg 5; simp })))) | (refine skip_val rfl ?_ ?_; (focus (simp; done))))); with_reducible refine runK_nil ?_; (first | refine ⟨rfl, ?_⟩ | refine ⟨by simp [quietB], by simp [quietU], ?_⟩ | skip)) | (refine WL.cond ?_; (conv => { arg 1; simp (disch := omega) [if_pos, if_neg, h3, h4] }); (first | with_reducible refine condT ?_ | with_reducible refine condF ?_ | with_reducible refine condPT (by omega) ?_ | with_reducible refine condPF (by omega) ?_))))
    refine ⟨[], ?_⟩
    rw [← hL]
    simp (disch := omega) [if_pos, if_neg, rowQ, row, rowC, lastNZ]
  | succ m =>
    have hmQ : m < Q.length := by omega
    have hml : m < l.length := by omega
    have rx := rowQ_at hmQ
    have h3l : 3 ≤ (rowC (Q.map RF.of)).length - m * 3 := by omega
    have hge : Q.getD m 0 = Q[m]'hmQ := by rw [List.getD_eq_getElem?_getD, List.getElem?_eq_getElem hmQ]; rfl
    have hL2 : lastNZ Q (m + 1) = if Q[m]'hmQ = 0 then lastNZ Q m else m + 1 := by rw [← hge]; rfl
    have cS := rfSign (a := RF.of (Q[m]'hmQ)) (RF.of_ok (hq _ (List.getElem_mem hmQ)))
    rw [RF.of_q] at cS
    have eS := sgnQ_zero (Q[m]'hmQ)
    have htk := rowC_takeQ Q (m + 1)
    generalize Q[m]'hmQ = q at *
    generalize RF.of q = y at *
    by_cases h0 : q = 0
    · have hs : sgnQ q = 0 := by rw [h0]; rfl
      rw [hs] at cS
      rw [if_pos h0] at hL2
      (repeat (first | with_reducible refine WL.seq ?_ | with_reducible refine WL.skip ?_ | with_reducible refine WL.label ?_ | with_reducible refine WL.block ?_ | with_reducible refine WL.scope ?_ | with_reducible refine WL.nilS ?_ | with_reducible refine WL.reS ?_ | with_reducible refine WL.exS ?_ | with_reducible refine WL.nilB ?_ | with_reducible refine WL.nilT ?_ | with_reducible refine WL.exit ?_ | with_reducible refine WL.ret ?_ | with_reducible refine WL.exT ?_ | with_reducible refine WL.exB ?_ | with_reducible refine WL.exN rfl ?_ | with_reducible refine WL.reT ?_ | with_reducible refine WL.reB ?_ | ((first | refine WL.reg rfl ?_ | refine WL.regT mixed rfl ?_); (conv => { arg 3; simp [prep, prep1] }); (repeat (first | (refine runK_go ?_ ?_; (focus (simp; done)); (conv => { arg 4; simp (disch := omega) [if_pos, if_neg, h3, h4, hml, hlen, h3l, rx, RF.pv, RF.cells] }); (first | refine contK_val ?_ | (refine contK_go ?_; (conv => { arg 5; simp })))) | (refine skip_val rfl ?_ ?_; (focus (simp; done))) | (refine runK_go ?_ ?_; (focus (simp; done)); (conv => { arg 4; simp (disch := omega) [if_pos, if_neg, h3, h4, hml, hlen, h3l, rx, RF.pv, RF.cells] }); refine callU true rfl rfl ⟨_, Tryz.func28, rfl, rfl⟩ ?_; (conv => { arg 6; simp (disch := omega) [if_pos, if_neg, h3, h4, hml, hlen, h3l, rx, RF.pv, RF.cells] }); refine callC_go (cS) rfl ?_; (conv => { arg 5; simp (disch := omega) [if_pos, if_neg, h3, h4, hml, hlen, h3l, rx, RF.pv, RF.cells] })))); with_reducible refine runK_nil ?_; (first | refine ⟨rfl, ?_⟩ | refine ⟨by simp [quietB], by simp [quietU], ?_⟩ | skip)) | (refine WL.cond ?_; (conv => { arg 1; simp (disch := omega) [if_pos, if_neg, h3, h4, hml, hlen, h3l, rx, RF.pv, RF.cells] }); (first | with_reducible refine condT ?_ | with_reducible refine condF ?_ | with_reducible refine condPT (by omega) ?_ | with_reducible refine condPF (by omega) ?_))))
      exact ⟨m, by omega, by omega, by simp [h3], by simp, by rw [← hL, hL2]⟩
    · have hs : ¬ sgnQ q = 0 := by intro h; rw [h] at eS; simp [h0] at eS
      rw [if_neg h0] at hL2
      (repeat (first | with_reducible refine WL.seq ?_ | with_reducible refine WL.skip ?_ | with_reducible refine WL.label ?_ | with_reducible refine WL.block ?_ | with_reducible refine WL.scope ?_ | with_reducible refine WL.nilS ?_ | with_reducible refine WL.reS ?_ | with_reducible refine WL.exS ?_ | with_reducible refine WL.nilB ?_ | with_reducible refine WL.nilT ?_ | with_reducible refine WL.exit ?_ | with_reducible refine WL.ret ?_ | with_reducible refine WL.exT ?_ | with_reducible refine WL.exB ?_ | with_reducible refine WL.exN rfl ?_ | with_reducible refine WL.reT ?_ | with_reducible refine WL.reB ?_ | ((first | refine WL.reg rfl ?_ | refine WL.regT mixed rfl ?_); (conv => { arg 3; simp [prep, prep1] }); (repeat (first | (refine runK_go ?_ ?_; (focus (simp; done)); (conv => { arg 4; simp (disch := omega) [if_pos, if_neg, h3, h4, hml, hlen, h3l, rx, hs, RF.pv, RF.cells] }); (first | refine contK_val ?_ | (refine contK_go ?_; (conv => { arg 5; simp })))) | (refine skip_val rfl ?_ ?_; (focus (simp; done))) | (refine runK_go ?_ ?_; (focus (simp; done)); (conv => { arg 4; simp (disch := omega) [if_pos, if_neg, h3, h4, hml, hlen, h3l, rx, hs, RF.pv, RF.cells] }); refine callU true rfl rfl ⟨_, Tryz.func28, rfl, rfl⟩ ?_; (conv => { arg 6; simp (disch := omega) [if_pos, if_neg, h3, h4, hml, hlen, h3l, rx, hs, RF.pv, RF.cells] }); refine callC_go (cS) rfl ?_; (conv => { arg 5; simp (disch := omega) [if_pos, if_neg, h3, h4, hml, hlen, h3l, rx, hs, RF.pv, RF.cells] })))); with_reducible refine runK_nil ?_; (first | refine ⟨rfl, ?_⟩ | refine ⟨by simp [quietB], by simp [quietU], ?_⟩ | skip)) | (refine WL.cond ?_; (conv => { arg 1; simp (disch := omega) [if_pos, if_neg, h3, h4, hml, hlen, h3l, rx, hs, RF.pv, RF.cells] }); (first | with_reducible refine condT ?_ | with_reducible refine condF ?_ | with_reducible refine condPT (by omega) ?_ | with_reducible refine condPF (by omega) ?_))))
      refine ⟨[], ?_⟩
      rw [← hL, hL2]
      have hl5 : ((Q.take (m + 1)).map RF.of).length = m + 1 := by simp; omega
      simp (disch := omega) [if_pos, if_neg, rowQ, row, htk, hl5]

/-- The size of a value in the course of it. -/
theorem szQ_eval (K : Nat) (x : Rat) (hx : szQ x ≤ K) : ∀ (l : List Rat), (∀ q ∈ l, szQ q ≤ K) → szQ (evalQ l x) ≤ l.length * (2 * K + 1) + 1
  | [], _ => by have := szQ_zero; simp only [evalQ, List.foldr_nil]; omega
  | a :: l, h => by
    have ih := szQ_eval K x hx l (fun q hq => h q (by simp [hq]))
    have h1 := szQ_mul (evalQ l x) x
    have h2 := szQ_add (evalQ l x * x) a
    have h3 := h a (by simp)
    have e : evalQ (a :: l) x = evalQ l x * x + a := rfl
    rw [e, List.length_cons, Nat.succ_mul]
    omega
theorem polyEval (l : List RF) (x : RF) (K : Nat) (hK : 1 ≤ K) (hx : x.ok K) (hl : ∀ y ∈ l, y.ok K) (hs : (l.length + 1) * (2 * K + 1) ≤ 1073741824) :
    CallOk Tryz.prog 30 [row l, x.pv] [] (frQ (evalQ (qs l) x.q)) [] := by
  have hKs : K ≤ 1073741824 := by
    have : 1 * (2 * K + 1) ≤ (l.length + 1) * (2 * K + 1) := Nat.mul_le_mul_right _ (by omega)
    omega
  have hll : l.length ≤ 1073741824 := by
    have : (l.length + 1) * 1 ≤ (l.length + 1) * (2 * K + 1) := Nat.mul_le_mul_left _ (by omega)
    omega
  have c1 := fracOf 0 (by omega)
  rw [show ((0 : Int) : Rat) = 0 from rfl] at c1
  have hlen := rowC_len l
  have hq : ∀ q ∈ qs l, szQ q ≤ K := fun q hq => by
    obtain ⟨y, hy, rfl⟩ := List.mem_map.1 hq
    exact (hl y hy).sz hK
  have e0 : ∀ q : Rat, frQ q = (RF.of q).pv := fun _ => rfl
  refine CallOk.of_wl Tryz.func30 rfl rfl rfl (Nat.le_of_ble_eq_true rfl) ?_
  (repeat (first | with_reducible refine WL.seq ?_ | with_reducible refine WL.skip ?_ | with_reducible refine WL.label ?_ | with_reducible refine WL.block ?_ | with_reducible refine WL.scope ?_ | with_reducible refine WL.nilS ?_ | with_reducible refine WL.reS ?_ | with_reducible refine WL.exS ?_ | with_reducible refine WL.nilB ?_ | with_reducible refine WL.nilT ?_ | with_reducible refine WL.exit ?_ | with_reducible refine WL.ret ?_ | with_reducible refine WL.exT ?_ | with_reducible refine WL.exB ?_ | with_reducible refine WL.exN rfl ?_ | with_reducible refine WL.reT ?_ | with_reducible refine WL.reB ?_ | ((first | refine WL.reg rfl ?_ | refine WL.regT mixed rfl ?_); (conv => { arg 3; simp [prep, prep1] }); (repeat (first | (refine runK_go ?_ ?_; (focus (simp; done)); (conv => { arg 4; simp (disch := omega) [if_pos, if_neg, frQ, fr, row, RF.pv, RF.cells] }); (first | refine contK_val ?_ | (refine contK_go ?_; (conv => { arg 5; simp })))) | (refine skip_val rfl ?_ ?_; (focus (simp; done))) | (refine runK_go ?_ ?_; (focus (simp; done)); (conv => { arg 4; simp (disch := omega) [if_pos, if_neg, frQ, fr, row, RF.pv, RF.cells] }); refine callU true rfl rfl ⟨_, Tryz.func60, rfl, rfl⟩ ?_; (conv => { arg 6; simp (disch := omega) [if_pos, if_neg, frQ, fr, row, RF.pv, RF.cells] }); refine callC_go (c1) rfl ?_; (conv => { arg 5; simp (disch := omega) [if_pos, if_neg, frQ, fr, row, RF.pv, RF.cells] })))); with_reducible refine runK_nil ?_; (first | refine ⟨rfl, ?_⟩ | refine ⟨by simp [quietB], by simp [quietU], ?_⟩ | skip)) | (refine WL.cond ?_; (conv => { arg 1; simp (disch := omega) [if_pos, if_neg, frQ, fr, row, RF.pv, RF.cells] }); (first | with_reducible refine condT ?_ | with_reducible refine condF ?_ | with_reducible refine condPT (by omega) ?_ | with_reducible refine condPF (by omega) ?_))))
  refine WL.loop (fun m s => m ≤ l.length ∧ s.frame 0 = .rd (rowC l) l.length ∧ s.frame 3 = .pt ⟨3, 0, 0⟩ 0 0 ∧ s.frame 4 = .pt ⟨4, 0, 0⟩ 0 0 ∧ s.frame 5 = .pt ⟨5, 0, 0⟩ 0 0 ∧ s.frame 6 = .int .i64 ((m : Int) - 1) ∧
      s.store ⟨3, 0, 0⟩ = some ⟨0, true, false, x.cells⟩ ∧ s.store ⟨4, 0, 0⟩ = some ⟨0, true, false, [.bool false, .nilS, .nilS]⟩ ∧ s.store ⟨5, 0, 0⟩ = some ⟨0, true, false, (RF.of (evalQ ((qs l).drop m) x.q)).cells⟩) l.length ?_ ?_
  · refine ⟨by omega, by simp, by simp, by simp, by simp, by simp, by simp [RF.cells], by simp, ?_⟩
    rw [List.drop_of_length_le (by simp [qs])]
    simp [evalQ, RF.cells, RF.of]
  rintro m ⟨f, σ, g⟩ ⟨hm, h0, h3, h4, h5, h6, hs3, hs4, hs5⟩
  simp only at h0 h3 h4 h5 h6 hs3 hs4 hs5
  cases m with
  | zero =>
    have h6' : f 6 = .int .i64 (-1) := by simpa using h6
    rw [List.drop_zero] at hs5
    (repeat (first | with_reducible refine WL.seq ?_ | with_reducible refine WL.skip ?_ | with_reducible refine WL.label ?_ | with_reducible refine WL.block ?_ | with_reducible refine WL.scope ?_ | with_reducible refine WL.nilS ?_ | with_reducible refine WL.reS ?_ | with_reducible refine WL.exS ?_ | with_reducible refine WL.nilB ?_ | with_reducible refine WL.nilT ?_ | with_reducible refine WL.exit ?_ | with_reducible refine WL.ret ?_ | with_reducible refine WL.exT ?_ | with_reducible refine WL.exB ?_ | with_reducible refine WL.exN rfl ?_ | with_reducible refine WL.reT ?_ | with_reducible refine WL.reB ?_ | ((first | refine WL.reg rfl ?_ | refine WL.regT mixed rfl ?_); (conv => { arg 3; simp [prep, prep1] }); (repeat (first | (refine runK_go ?_ ?_; (focus (simp; done)); (conv => { arg 4; simp (disch := omega) [if_pos, if_neg, h6', h5, hs5, h4, hs4, RF.cells, RF.of] }); (first | refine contK_val ?_ | (refine contK_go ?_; (conv => { arg 5; simp })))) | (refine skip_val rfl ?_ ?_; (focus (simp; done))))); with_reducible refine runK_nil ?_; (first | refine ⟨rfl, ?_⟩ | refine ⟨by simp [quietB], by simp [quietU], ?_⟩ | skip)) | (refine WL.cond ?_; (conv => { arg 1; simp (disch := omega) [if_pos, if_neg, h6', h5, hs5, h4, hs4, RF.cells, RF.of] }); (first | with_reducible refine condT ?_ | with_reducible refine condF ?_ | with_reducible refine condPT (by omega) ?_ | with_reducible refine condPF (by omega) ?_))))
    refine ⟨[], ?_⟩
    simp (disch := omega) [if_pos, if_neg, h4, frQ, fr]
  | succ m =>
    have hml : m < l.length := by omega
    have h6' : f 6 = .int .i64 (m : Int) := by rw [h6]; congr 1; omega
    have rx := rowC_at hml
    have h3l : 3 ≤ (rowC l).length - m * 3 := by omega
    have hdr : (qs l).drop m = (l[m]'hml).q :: (qs l).drop (m + 1) := by
      rw [List.drop_eq_getElem_cons (show m < (qs l).length by simpa [qs] using hml)]; simp [qs]
    have hev : evalQ ((qs l).drop m) x.q = evalQ ((qs l).drop (m + 1)) x.q * x.q + (l[m]'hml).q := by rw [hdr]; rfl
    have hz := szQ_eval K x.q (hx.sz hK) ((qs l).drop (m + 1)) (fun q h => hq q (List.mem_of_mem_drop h))
    have hz2 : ((qs l).drop (m + 1)).length * (2 * K + 1) ≤ l.length * (2 * K + 1) := Nat.mul_le_mul_right _ (by simp [qs])
    rw [Nat.succ_mul] at hs
    have hxo := hl _ (List.getElem_mem hml)
    have zx := hx.sz hK
    have c2 := rfMul (a := RF.of (evalQ ((qs l).drop (m + 1)) x.q)) (b := x) (RF.of_ok (by omega)) (hx.mono (by omega))
    rw [RF.of_q] at c2
    have hz3 := szQ_mul (evalQ ((qs l).drop (m + 1)) x.q) x.q
    have c3 := rfAdd (a := RF.of (evalQ ((qs l).drop (m + 1)) x.q * x.q)) (b := l[m]'hml) (RF.of_ok (by omega)) (hxo.mono (by omega))
    rw [RF.of_q, ← hev] at c3
    generalize l[m]'hml = y at *
    generalize hr2 : evalQ ((qs l).drop m) x.q = r2 at *
    generalize evalQ ((qs l).drop (m + 1)) x.q * x.q = r1 at *
    generalize evalQ ((qs l).drop (m + 1)) x.q = r0 at *
    have hm0 : 0 ≤ (m : Int) := by omega
    (repeat (first | with_reducible refine WL.seq ?_ | with_reducible refine WL.skip ?_ | with_reducible refine WL.label ?_ | with_reducible refine WL.block ?_ | with_reducible refine WL.scope ?_ | with_reducible refine WL.nilS ?_ | with_reducible refine WL.reS ?_ | with_reducible refine WL.exS ?_ | with_reducible refine WL.nilB ?_ | with_reducible refine WL.nilT ?_ | with_reducible refine WL.exit ?_ | with_reducible refine WL.ret ?_ | with_reducible refine WL.exT ?_ | with_reducible refine WL.exB ?_ | with_reducible refine WL.exN rfl ?_ | with_reducible refine WL.reT ?_ | with_reducible refine WL.reB ?_ | ((first | refine WL.reg rfl ?_ | refine WL.regT mixed rfl ?_); (conv => { arg 3; simp [prep, prep1] }); (repeat (first | (refine runK_go ?_ ?_; (focus (simp; done)); (conv => { arg 4; simp (disch := omega) [if_pos, if_neg, h6', h0, h3, h5, hs3, hs5, hml, rx, h3l, hlen, RF.pv, RF.cells, RF.of, frQ, fr] }); (first | refine contK_val ?_ | (refine contK_go ?_; (conv => { arg 5; simp })))) | (refine skip_val rfl ?_ ?_; (focus (simp; done))) | (refine runK_go ?_ ?_; (focus (simp; done)); (conv => { arg 4; simp (disch := omega) [if_pos, if_neg, h6', h0, h3, h5, hs3, hs5, hml, rx, h3l, hlen, RF.pv, RF.cells, RF.of, frQ, fr] }); refine callU true rfl rfl ⟨_, Tryz.func50, rfl, rfl⟩ ?_; (conv => { arg 6; simp (disch := omega) [if_pos, if_neg, h6', h0, h3, h5, hs3, hs5, hml, rx, h3l, hlen, RF.pv, RF.cells, RF.of, frQ, fr] }); refine callC_go (c2) rfl ?_; (conv => { arg 5; simp (disch := omega) [if_pos, if_neg, h6', h0, h3, h5, hs3, hs5, hml, rx, h3l, hlen, RF.pv, RF.cells, RF.of, frQ, fr] })) | (refine runK_go ?_ ?_; (focus (simp; done)); (conv => { arg 4; simp (disch := omega) [if_pos, if_neg, h6', h0, h3, h5, hs3, hs5, hml, rx, h3l, hlen, RF.pv, RF.cells, RF.of, frQ, fr] }); refine callU true rfl rfl ⟨_, Tryz.func29, rfl, rfl⟩ ?_; (conv => { arg 6; simp (disch := omega) [if_pos, if_neg, h6', h0, h3, h5, hs3, hs5, hml, rx, h3l, hlen, RF.pv, RF.cells, RF.of, frQ, fr] }); refine callC_go (c3) rfl ?_; (conv => { arg 5; simp (disch := omega) [if_pos, if_neg, h6', h0, h3, h5, hs3, hs5, hml, rx, h3l, hlen, RF.pv, RF.cells, RF.of, frQ, fr] })))); with_reducible refine runK_nil ?_; (first | refine ⟨rfl, ?_⟩ | refine ⟨by simp [quietB], by simp [quietU], ?_⟩ | skip)) | (refine WL.cond ?_; (conv => { arg 1; simp (disch := omega) [if_pos, if_neg, h6', h0, h3, h5, hs3, hs5, hml, rx, h3l, hlen, RF.pv, RF.cells, RF.of, frQ, fr] }); (first | with_reducible refine condT ?_ | with_reducible refine condF ?_ | with_reducible refine condPT (by omega) ?_ | with_reducible refine condPF (by omega) ?_))))
    exact ⟨m, by omega, by omega, by simp [h0], by simp [h3], by simp [h4], by simp [h5], by simp, by simp [hs3, RF.cells], by simp [hs4], by simp [RF.cells, RF.of, hr2]⟩

theorem diffL_len (l : List Rat) : (diffL l).length = l.length - 1 := by simp [diffL]
theorem diffL_take (l : List Rat) (i : Nat) (h : i + 1 < l.length) : (diffL l).take (i + 1) = (diffL l).take i ++ [(((i + 1 : Nat) : Int) : Rat) * l.getD (i + 1) 0] := by
  rw [List.take_succ_eq_append_getElem (by rw [diffL_len]; omega)]
  simp [diffL]
theorem szQ_diff (l : List Rat) (K : Nat) (h : ∀ q ∈ l, szQ q ≤ K) (hl : l.length ≤ 1000000) : ∀ q ∈ diffL l, szQ q ≤ K + 1 := by
  intro q hq
  simp only [diffL, List.mem_map, List.mem_range] at hq
  obtain ⟨i, hi, rfl⟩ := hq
  have h1 := szQ_mul (((i + 1 : Nat) : Int) : Rat) (l.getD (i + 1) 0)
  have h2 := szQ_int ((i + 1 : Nat) : Int) (by omega)
  have h3 : szQ (l.getD (i + 1) 0) ≤ K := by
    rw [List.getD_eq_getElem?_getD, List.getElem?_eq_getElem (by omega)]
    exact h _ (List.getElem_mem _)
  omega
theorem polyDiff (l : List RF) (hl : ∀ y ∈ l, y.ok 1073741824) (hll : l.length ≤ 1000000) :
    CallOk Tryz.prog 26 [row l] [] (rowQ (trimQ (diffL (qs l)))) [] := by
  have hlen := rowC_len l
  have hql : (qs l).length = l.length := by simp [qs]
  have hdl := diffL_len (qs l)
  have hq : ∀ q ∈ qs l, szQ q ≤ 1073741824 := fun q hq => by
    obtain ⟨y, hy, rfl⟩ := List.mem_map.1 hq
    exact (hl y hy).sz (by decide)
  have hdq := szQ_diff (qs l) _ hq (by omega)
  have cN := polyNorm ((diffL (qs l)).map RF.of) (by
    intro y hy
    obtain ⟨q, hq', rfl⟩ := List.mem_map.1 hy
    exact RF.of_ok (Nat.le_trans (hdq q hq') (by decide))) (by simp [hdl, hql]; omega)
  rw [qs_of] at cN
  have hlD := rowC_len ((diffL (qs l)).map RF.of)
  rw [List.length_map] at hlD
  simp only [rowQ, row, List.length_map] at cN
  rw [hdl, hql] at hlD
  rw [hdl, hql] at cN
  have hrow : rowQ (trimQ (diffL (qs l))) = .rd (rowC ((trimQ (diffL (qs l))).map RF.of)) (trimQ (diffL (qs l))).length := by simp [rowQ, row]
  rw [hrow]
  refine CallOk.of_wl Tryz.func26 rfl rfl rfl (Nat.le_of_ble_eq_true rfl) ?_
  (repeat (first | with_reducible refine WL.seq ?_ | with_reducible refine WL.skip ?_ | with_reducible refine WL.label ?_ | with_reducible refine WL.block ?_ | with_reducible refine WL.scope ?_ | with_reducible refine WL.nilS ?_ | with_reducible refine WL.reS ?_ | with_reducible refine WL.exS ?_ | with_reducible refine WL.nilB ?_ | with_reducible refine WL.nilT ?_ | with_reducible refine WL.exit ?_ | with_reducible refine WL.ret ?_ | with_reducible refine WL.exT ?_ | with_reducible refine WL.exB ?_ | with_reducible refine WL.exN rfl ?_ | with_reducible refine WL.reT ?_ | with_reducible refine WL.reB ?_ | ((first | refine WL.reg rfl ?_ | refine WL.regT mixed rfl ?_); (conv => { arg 3; simp [prep, prep1] }); (repeat (first | (refine runK_go ?_ ?_; (focus (simp; done)); (conv => { arg 4; simp (disch := omega) [if_pos, if_neg, row] }); (first | refine contK_val ?_ | (refine contK_go ?_; (conv => { arg 5; simp })))) | (refine skip_val rfl ?_ ?_; (focus (simp; done))))); with_reducible refine runK_nil ?_; (first | refine ⟨rfl, ?_⟩ | refine ⟨by simp [quietB], by simp [quietU], ?_⟩ | skip)) | (refine WL.cond ?_; (conv => { arg 1; simp (disch := omega) [if_pos, if_neg, row] }); (first | with_reducible refine condT ?_ | with_reducible refine condF ?_ | with_reducible refine condPT (by omega) ?_ | with_reducible refine condPF (by omega) ?_))))
  refine WL.loop (fun m s => ∃ i : Nat, m = l.length - 1 - i ∧ i ≤ l.length - 1 ∧ s.frame 0 = row l ∧ s.frame 4 = .int .i64 ((i : Int) + 1) ∧
    ((i = 0 ∧ s.frame 3 = .nilS) ∨ ∃ G v, s.frame 3 = .sl ⟨20, G, 0⟩ v 0 i 3 ∧ s.store ⟨20, G, 0⟩ = some ⟨v, true, true, rowC (((diffL (qs l)).take i).map RF.of)⟩)) (l.length - 1) ?_ ?_
  · exact ⟨0, by omega, by omega, by simp [row], by simp, .inl ⟨rfl, by simp⟩⟩
  rintro m ⟨f, σ, g⟩ ⟨i, rfl, hi, h0, h4, h3⟩
  simp only at h0 h4 h3
  by_cases hi' : i + 1 < l.length
  · have rx := rowC_at hi'
    have hiI : (i : Int) + 1 < l.length := by omega
    have hiN : ((i : Int) + 1).toNat = i + 1 := by omega
    have h3l : 3 ≤ (rowC l).length - (i + 1) * 3 := by omega
    have c1 := fracOf ((i : Int) + 1) (by omega)
    have hxo := hl _ (List.getElem_mem hi')
    have zi := szQ_int ((i : Int) + 1) (by omega)
    have c2 := rfMul (a := RF.of (((i : Int) + 1 : Int) : Rat)) (b := l[i + 1]'hi') (RF.of_ok (by omega)) (hxo.mono (by omega))
    rw [RF.of_q] at c2
    have htk := diffL_take (qs l) i (by omega)
    have hgd : (qs l).getD (i + 1) 0 = (l[i + 1]'hi').q := by
      rw [List.getD_eq_getElem?_getD, List.getElem?_eq_getElem (by omega)]; simp [qs]
    rw [hgd, show (((i + 1 : Nat) : Int) : Rat) = (((i : Int) + 1 : Int) : Rat) from rfl] at htk
    have htk2 : rowC (((diffL (qs l)).take (i + 1)).map RF.of) = rowC (((diffL (qs l)).take i).map RF.of) ++ (RF.of ((((i : Int) + 1 : Int) : Rat) * (l[i + 1]'hi').q)).cells := by
      rw [htk]; simp [rowC]
    clear htk hgd zi
    generalize l[i + 1]'hi' = x at *
    generalize (((i : Int) + 1 : Int) : Rat) * x.q = w at *
    generalize (((i : Int) + 1 : Int) : Rat) = iq at *
    rcases h3 with ⟨rfl, h3⟩ | ⟨G, v, h3, hst⟩
    · have htk0 : rowC (((diffL (qs l)).take 1).map RF.of) = (RF.of w).cells := by
        rw [htk2]; simp [rowC]
      (repeat (first | with_reducible refine WL.seq ?_ | with_reducible refine WL.skip ?_ | with_reducible refine WL.label ?_ | with_reducible refine WL.block ?_ | with_reducible refine WL.scope ?_ | with_reducible refine WL.nilS ?_ | with_reducible refine WL.reS ?_ | with_reducible refine WL.exS ?_ | with_reducible refine WL.nilB ?_ | with_reducible refine WL.nilT ?_ | with_reducible refine WL.exit ?_ | with_reducible refine WL.ret ?_ | with_reducible refine WL.exT ?_ | with_reducible refine WL.exB ?_ | with_reducible refine WL.exN rfl ?_ | with_reducible refine WL.reT ?_ | with_reducible refine WL.reB ?_ | ((first | refine WL.reg rfl ?_ | refine WL.regT mixed rfl ?_); (conv => { arg 3; simp [prep, prep1] }); (repeat (first | (refine runK_go ?_ ?_; (focus (simp; done)); (conv => { arg 4; simp (disch := omega) [if_pos, if_neg, h4, h0, row, hi', hiI, hiN, hlen, rx, h3l, RF.pv, RF.cells, h3, frQ, fr] }); (first | refine contK_val ?_ | (refine contK_go ?_; (conv => { arg 5; simp })))) | (refine skip_val rfl ?_ ?_; (focus (simp; done))) | (refine runK_go ?_ ?_; (focus (simp; done)); (conv => { arg 4; simp (disch := omega) [if_pos, if_neg, h4, h0, row, hi', hiI, hiN, hlen, rx, h3l, RF.pv, RF.cells, h3, frQ, fr] }); refine callU true rfl rfl ⟨_, Tryz.func60, rfl, rfl⟩ ?_; (conv => { arg 6; simp (disch := omega) [if_pos, if_neg, h4, h0, row, hi', hiI, hiN, hlen, rx, h3l, RF.pv, RF.cells, h3, frQ, fr] }); refine callC_go (c1) rfl ?_; (conv => { arg 5; simp (disch := omega) [if_pos, if_neg, h4, h0, row, hi', hiI, hiN, hlen, rx, h3l, RF.pv, RF.cells, h3, frQ, fr] })) | (refine runK_go ?_ ?_; (focus (simp; done)); (conv => { arg 4; simp (disch := omega) [if_pos, if_neg, h4, h0, row, hi', hiI, hiN, hlen, rx, h3l, RF.pv, RF.cells, h3, frQ, fr] }); refine callU true rfl rfl ⟨_, Tryz.func50, rfl, rfl⟩ ?_; (conv => { arg 6; simp (disch := omega) [if_pos, if_neg, h4, h0, row, hi', hiI, hiN, hlen, rx, h3l, RF.pv, RF.cells, h3, frQ, fr] }); refine callC_go (c2) rfl ?_; (conv => { arg 5; simp (disch := omega) [if_pos, if_neg, h4, h0, row, hi', hiI, hiN, hlen, rx, h3l, RF.pv, RF.cells, h3, frQ, fr] })))); with_reducible refine runK_nil ?_; (first | refine ⟨rfl, ?_⟩ | refine ⟨by simp [quietB], by simp [quietU], ?_⟩ | skip)) | (refine WL.cond ?_; (conv => { arg 1; simp (disch := omega) [if_pos, if_neg, h4, h0, row, hi', hiI, hiN, hlen, rx, h3l, RF.pv, RF.cells, h3, frQ, fr] }); (first | with_reducible refine condT ?_ | with_reducible refine condF ?_ | with_reducible refine condPT (by omega) ?_ | with_reducible refine condPF (by omega) ?_))))
      exact ⟨l.length - 1 - 1, by omega, 1, rfl, by omega, by simp [h0, row], by simp, .inr ⟨g 20, 0, by simp, by rw [htk0]; simp [RF.cells_of]⟩⟩
    · have hlt := rowC_len (((diffL (qs l)).take i).map RF.of)
      have hlt2 : (((diffL (qs l)).take i).map RF.of).length = i := by simp [hdl]; omega
      rw [hlt2] at hlt
      generalize rowC (((diffL (qs l)).take i).map RF.of) = A at *
      have htk1 : A.take (i * 3) = A := List.take_of_length_le (by omega)
      (repeat (first | with_reducible refine WL.seq ?_ | with_reducible refine WL.skip ?_ | with_reducible refine WL.label ?_ | with_reducible refine WL.block ?_ | with_reducible refine WL.scope ?_ | with_reducible refine WL.nilS ?_ | with_reducible refine WL.reS ?_ | with_reducible refine WL.exS ?_ | with_reducible refine WL.nilB ?_ | with_reducible refine WL.nilT ?_ | with_reducible refine WL.exit ?_ | with_reducible refine WL.ret ?_ | with_reducible refine WL.exT ?_ | with_reducible refine WL.exB ?_ | with_reducible refine WL.exN rfl ?_ | with_reducible refine WL.reT ?_ | with_reducible refine WL.reB ?_ | ((first | refine WL.reg rfl ?_ | refine WL.regT mixed rfl ?_); (conv => { arg 3; simp [prep, prep1] }); (repeat (first | (refine runK_go ?_ ?_; (focus (simp; done)); (conv => { arg 4; simp (disch := omega) [if_pos, if_neg, h4, h0, row, hi', hiI, hiN, hlen, rx, h3l, RF.pv, RF.cells, h3, hst, hlt, htk1, frQ, fr] }); (first | refine contK_val ?_ | (refine contK_go ?_; (conv => { arg 5; simp })))) | (refine skip_val rfl ?_ ?_; (focus (simp; done))) | (refine runK_go ?_ ?_; (focus (simp; done)); (conv => { arg 4; simp (disch := omega) [if_pos, if_neg, h4, h0, row, hi', hiI, hiN, hlen, rx, h3l, RF.pv, RF.cells, h3, hst, hlt, htk1, frQ, fr] }); refine callU true rfl rfl ⟨_, Tryz.func60, rfl, rfl⟩ ?_; (conv => { arg 6; simp (disch := omega) [if_pos, if_neg, h4, h0, row, hi', hiI, hiN, hlen, rx, h3l, RF.pv, RF.cells, h3, hst, hlt, htk1, frQ, fr] }); refine callC_go (c1) rfl ?_; (conv => { arg 5; simp (disch := omega) [if_pos, if_neg, h4, h0, row, hi', hiI, hiN, hlen, rx, h3l, RF.pv, RF.cells, h3, hst, hlt, htk1, frQ, fr] })) | (refine runK_go ?_ ?_; (focus (simp; done)); (conv => { arg 4; simp (disch := omega) [if_pos, if_neg, h4, h0, row, hi', hiI, hiN, hlen, rx, h3l, RF.pv, RF.cells, h3, hst, hlt, htk1, frQ, fr] }); refine callU true rfl rfl ⟨_, Tryz.func50, rfl, rfl⟩ ?_; (conv => { arg 6; simp (disch := omega) [if_pos, if_neg, h4, h0, row, hi', hiI, hiN, hlen, rx, h3l, RF.pv, RF.cells, h3, hst, hlt, htk1, frQ, fr] }); refine callC_go (c2) rfl ?_; (conv => { arg 5; simp (disch := omega) [if_pos, if_neg, h4, h0, row, hi', hiI, hiN, hlen, rx, h3l, RF.pv, RF.cells, h3, hst, hlt, htk1, frQ, fr] })))); with_reducible refine runK_nil ?_; (first | refine ⟨rfl, ?_⟩ | refine ⟨by simp [quietB], by simp [quietU], ?_⟩ | skip)) | (refine WL.cond ?_; (conv => { arg 1; simp (disch := omega) [if_pos, if_neg, h4, h0, row, hi', hiI, hiN, hlen, rx, h3l, RF.pv, RF.cells, h3, hst, hlt, htk1, frQ, fr] }); (first | with_reducible refine condT ?_ | with_reducible refine condF ?_ | with_reducible refine condPT (by omega) ?_ | with_reducible refine condPF (by omega) ?_))))
      exact ⟨l.length - 1 - (i + 1), by omega, i + 1, rfl, by omega, by simp [h0, row], by simp, .inr ⟨G, v + 1, by simp, by rw [htk2]; simp [RF.cells_of]⟩⟩
  · have hia : i = l.length - 1 := by omega
    subst hia
    have hiI : ¬ (((l.length - 1 : Nat) : Int) + 1 < l.length) := by omega
    rcases h3 with ⟨h0', h3⟩ | ⟨G, v, h3, hst⟩
    · have hd : diffL (qs l) = [] := List.eq_nil_of_length_eq_zero (by omega)
      rw [hd] at cN ⊢
      rw [h0'] at cN
      have h4' : f 4 = .int .i64 1 := by rw [h4, h0']; rfl
      have hle : ¬ (1 : Int) < l.length := by omega
      simp only [List.map_nil, rowC, List.flatMap_nil] at cN
      (repeat (first | with_reducible refine WL.seq ?_ | with_reducible refine WL.skip ?_ | with_reducible refine WL.label ?_ | with_reducible refine WL.block ?_ | with_reducible refine WL.scope ?_ | with_reducible refine WL.nilS ?_ | with_reducible refine WL.reS ?_ | with_reducible refine WL.exS ?_ | with_reducible refine WL.nilB ?_ | with_reducible refine WL.nilT ?_ | with_reducible refine WL.exit ?_ | with_reducible refine WL.ret ?_ | with_reducible refine WL.exT ?_ | with_reducible refine WL.exB ?_ | with_reducible refine WL.exN rfl ?_ | with_reducible refine WL.reT ?_ | with_reducible refine WL.reB ?_ | ((first | refine WL.reg rfl ?_ | refine WL.regT mixed rfl ?_); (conv => { arg 3; simp [prep, prep1] }); (repeat (first | (refine runK_go ?_ ?_; (focus (simp; done)); (conv => { arg 4; simp (disch := omega) [if_pos, if_neg, h4', h0, row, h3, hle] }); (first | refine contK_val ?_ | (refine contK_go ?_; (conv => { arg 5; simp })))) | (refine skip_val rfl ?_ ?_; (focus (simp; done))) | (refine runK_go ?_ ?_; (focus (simp; done)); (conv => { arg 4; simp (disch := omega) [if_pos, if_neg, h4', h0, row, h3, hle] }); refine callU true rfl rfl ⟨_, Tryz.func77, rfl, rfl⟩ ?_; (conv => { arg 6; simp (disch := omega) [if_pos, if_neg, h4', h0, row, h3, hle] }); refine callC_go (cN) rfl ?_; (conv => { arg 5; simp (disch := omega) [if_pos, if_neg, h4', h0, row, h3, hle] })))); with_reducible refine runK_nil ?_; (first | refine ⟨rfl, ?_⟩ | refine ⟨by simp [quietB], by simp [quietU], ?_⟩ | skip)) | (refine WL.cond ?_; (conv => { arg 1; simp (disch := omega) [if_pos, if_neg, h4', h0, row, h3, hle] }); (first | with_reducible refine condT ?_ | with_reducible refine condF ?_ | with_reducible refine condPT (by omega) ?_ | with_reducible refine condPF (by omega) ?_))))
      refine ⟨[], ?_⟩
      simp (disch := omega) [if_pos, if_neg, rowC]
    · rw [List.take_of_length_le (by omega)] at hst
      have htk1 : (rowC ((diffL (qs l)).map RF.of)).take ((l.length - 1) * 3) = rowC ((diffL (qs l)).map RF.of) := List.take_of_length_le (by omega)
      generalize (trimQ (diffL (qs l))).length = tl at *
      generalize rowC ((trimQ (diffL (qs l))).map RF.of) = TT at *
      generalize rowC ((diffL (qs l)).map RF.of) = A at *
      (repeat (first | with_reducible refine WL.seq ?_ | with_reducible refine WL.skip ?_ | with_reducible refine WL.label ?_ | with_reducible refine WL.block ?_ | with_reducible refine WL.scope ?_ | with_reducible refine WL.nilS ?_ | with_reducible refine WL.reS ?_ | with_reducible refine WL.exS ?_ | with_reducible refine WL.nilB ?_ | with_reducible refine WL.nilT ?_ | with_reducible refine WL.exit ?_ | with_reducible refine WL.ret ?_ | with_reducible refine WL.exT ?_ | with_reducible refine WL.exB ?_ | with_reducible refine WL.exN rfl ?_ | with_reducible refine WL.reT ?_ | with_reducible refine WL.reB ?_ | ((first | refine WL.reg rfl ?_ | refine WL.regT mixed rfl ?_); (conv => { arg 3; simp [prep, prep1] }); (repeat (first | (refine runK_go ?_ ?_; (focus (simp; done)); (conv => { arg 4; simp (disch := omega) [if_pos, if_neg, h4, h0, row, h3, hst, hiI, htk1] }); (first | refine contK_val ?_ | (refine contK_go ?_; (conv => { arg 5; simp })))) | (refine skip_val rfl ?_ ?_; (focus (simp; done))) | (refine runK_go ?_ ?_; (focus (simp; done)); (conv => { arg 4; simp (disch := omega) [if_pos, if_neg, h4, h0, row, h3, hst, hiI, htk1] }); refine callU true rfl rfl ⟨_, Tryz.func77, rfl, rfl⟩ ?_; (conv => { arg 6; simp (disch := omega) [if_pos, if_neg, h4, h0, row, h3, hst, hiI, htk1] }); refine callC_go (cN) rfl ?_; (conv => { arg 5; simp (disch := omega) [if_pos, if_neg, h4, h0, row, h3, hst, hiI, htk1] })))); with_reducible refine runK_nil ?_; (first | refine ⟨rfl, ?_⟩ | refine ⟨by simp [quietB], by simp [quietU], ?_⟩ | skip)) | (refine WL.cond ?_; (conv => { arg 1; simp (disch := omega) [if_pos, if_neg, h4, h0, row, h3, hst, hiI, htk1] }); (first | with_reducible refine condT ?_ | with_reducible refine condF ?_ | with_reducible refine condPT (by omega) ?_ | with_reducible refine condPF (by omega) ?_))))
      refine ⟨[], ?_⟩
      simp (disch := omega) [if_pos, if_neg]
end Go.Proofs.YthgldcflcmlgpaaGreatDoorE
end

section
/- What the law makes of its argument; what is too long. -/
-- x3
set_option linter.unusedVariables false
set_option linter.unusedSimpArgs false
namespace Go.Proofs.YthgldcflcmlgpaaGreatDoorE
open Go.RowKit
set_option maxRecDepth 100000
attribute [local simp] List.getElem?_cons_zero List.getElem?_cons_succ List.getElem?_nil wrap_i64 stOf st0 effF effC evalV evalL upd_n updI_n pv_t pv_c pv_g pv_f ofConst binV binI lenV foldV mx2 mn2 unV convV extractV idxV indexV fieldAddrV fieldV partV sliceV boundsV loadL live storeE appendE srcV litE makeE IntKind.bits copyE boxE allocE flatParts flatCs flatC allParts cellsOf solid leafB fillL frzL buildV fillP placeS eqFl eqCell St.eff St.put wrs callE renP renA renC renI nid newL renB noEff endK endR resA resL resV expP expA expC expN expL expBs expB idx thenQ blockQ wantK wrap_u32 wrap_u64_in beqI bneI w32 wl fdiv_pos Int.natCast_inj

theorem law09To (a : RF) : CallOk Tryz.prog 16 [a.pv] [] a.pv [] := by
  refine CallOk.of_wl Tryz.func16 rfl rfl rfl (Nat.le_of_ble_eq_true rfl) ?_
  (repeat (first | with_reducible refine WL.seq ?_ | with_reducible refine WL.skip ?_ | with_reducible refine WL.label ?_ | with_reducible refine WL.block ?_ | with_reducible refine WL.scope ?_ | with_reducible refine WL.nilS ?_ | with_reducible refine WL.reS ?_ | with_reducible refine WL.exS ?_ | with_reducible refine WL.nilB ?_ | with_reducible refine WL.nilT ?_ | with_reducible refine WL.exit ?_ | with_reducible refine WL.ret ?_ | with_reducible refine WL.exT ?_ | with_reducible refine WL.exB ?_ | with_reducible refine WL.exN rfl ?_ | with_reducible refine WL.reT ?_ | with_reducible refine WL.reB ?_ | ((first | refine WL.reg rfl ?_ | refine WL.regT mixed rfl ?_); (conv => { arg 3; simp [prep, prep1] }); (repeat (first | (refine runK_go ?_ ?_; (focus (simp; done)); (conv => { arg 4; simp (disch := omega) [if_pos, if_neg, RF.pv, RF.cells] }); (first | refine contK_val ?_ | (refine contK_go ?_; (conv => { arg 5; simp })))) | (refine skip_val rfl ?_ ?_; (focus (simp; done))))); with_reducible refine runK_nil ?_; (first | refine ⟨rfl, ?_⟩ | refine ⟨by simp [quietB], by simp [quietU], ?_⟩ | skip)) | (refine WL.cond ?_; (conv => { arg 1; simp (disch := omega) [if_pos, if_neg, RF.pv, RF.cells] }); (first | with_reducible refine condT ?_ | with_reducible refine condF ?_ | with_reducible refine condPT (by omega) ?_ | with_reducible refine condPF (by omega) ?_))))
  refine ⟨[], ?_⟩
  simp (disch := omega) [if_pos, if_neg, RF.pv, RF.cells]

theorem law11To (l : List RF) (hl : l.length ≤ 2513169434843) : CallOk Tryz.prog 25 [row l] [] (row l) [] := by
  have hlen := rowC_len l
  refine CallOk.of_wl Tryz.func25 rfl rfl rfl (Nat.le_of_ble_eq_true rfl) ?_
  (repeat (first | with_reducible refine WL.seq ?_ | with_reducible refine WL.skip ?_ | with_reducible refine WL.label ?_ | with_reducible refine WL.block ?_ | with_reducible refine WL.scope ?_ | with_reducible refine WL.nilS ?_ | with_reducible refine WL.reS ?_ | with_reducible refine WL.exS ?_ | with_reducible refine WL.nilB ?_ | with_reducible refine WL.nilT ?_ | with_reducible refine WL.exit ?_ | with_reducible refine WL.ret ?_ | with_reducible refine WL.exT ?_ | with_reducible refine WL.exB ?_ | with_reducible refine WL.exN rfl ?_ | with_reducible refine WL.reT ?_ | with_reducible refine WL.reB ?_ | ((first | refine WL.reg rfl ?_ | refine WL.regT mixed rfl ?_); (conv => { arg 3; simp [prep, prep1] }); (repeat (first | (refine runK_go ?_ ?_; (focus (simp; done)); (conv => { arg 4; simp (disch := omega) [if_pos, if_neg, row] }); (first | refine contK_val ?_ | (refine contK_go ?_; (conv => { arg 5; simp })))) | (refine skip_val rfl ?_ ?_; (focus (simp; done))))); with_reducible refine runK_nil ?_; (first | refine ⟨rfl, ?_⟩ | refine ⟨by simp [quietB], by simp [quietU], ?_⟩ | skip)) | (refine WL.cond ?_; (conv => { arg 1; simp (disch := omega) [if_pos, if_neg, row] }); (first | with_reducible refine condT ?_ | with_reducible refine condF ?_ | with_reducible refine condPT (by omega) ?_ | with_reducible refine condPF (by omega) ?_))))
  refine WL.loop (fun m s => ∃ i : Nat, m = l.length - i ∧ i ≤ l.length ∧ s.frame 0 = row l ∧ s.frame 4 = .int .i64 i ∧
    ((i = 0 ∧ s.frame 3 = .nilS) ∨ ∃ G v, s.frame 3 = .sl ⟨18, G, 0⟩ v 0 i 3 ∧ s.store ⟨18, G, 0⟩ = some ⟨v, true, true, rowC (l.take i)⟩)) l.length ?_ ?_
  · exact ⟨0, by omega, by omega, by simp [row], by simp, .inl ⟨rfl, by simp⟩⟩
  rintro m ⟨f, σ, g⟩ ⟨i, rfl, hi, h0, h4, h3⟩
  simp only at h0 h4 h3
  by_cases hi' : i < l.length
  · have rx := rowC_at hi'
    have h3l : 3 ≤ (rowC l).length - i * 3 := by omega
    have htk : rowC (l.take (i + 1)) = rowC (l.take i) ++ (l[i]'hi').cells := by
      rw [List.take_succ_eq_append_getElem hi', rowC_app]; simp [rowC]
    have c1 := law09To (l[i]'hi')
    generalize l[i]'hi' = x at *
    rcases h3 with ⟨rfl, h3⟩ | ⟨G, v, h3, hst⟩
    · have htk0 : rowC (l.take 1) = x.cells := by simpa [rowC] using htk
      have rx0 : (rowC l).take 3 = x.cells := by simpa using rx
      have h3l0 : 3 ≤ l.length * 3 := by omega
      (repeat (first | with_reducible refine WL.seq ?_ | with_reducible refine WL.skip ?_ | with_reducible refine WL.label ?_ | with_reducible refine WL.block ?_ | with_reducible refine WL.scope ?_ | with_reducible refine WL.nilS ?_ | with_reducible refine WL.reS ?_ | with_reducible refine WL.exS ?_ | with_reducible refine WL.nilB ?_ | with_reducible refine WL.nilT ?_ | with_reducible refine WL.exit ?_ | with_reducible refine WL.ret ?_ | with_reducible refine WL.exT ?_ | with_reducible refine WL.exB ?_ | with_reducible refine WL.exN rfl ?_ | with_reducible refine WL.reT ?_ | with_reducible refine WL.reB ?_ | ((first | refine WL.reg rfl ?_ | refine WL.regT mixed rfl ?_); (conv => { arg 3; simp [prep, prep1] }); (repeat (first | (refine runK_go ?_ ?_; (focus (simp; done)); (conv => { arg 4; simp (disch := omega) [if_pos, if_neg, h4, h0, row, hi', hlen, rx0, h3l0, RF.pv, RF.cells, h3] }); (first | refine contK_val ?_ | (refine contK_go ?_; (conv => { arg 5; simp })))) | (refine skip_val rfl ?_ ?_; (focus (simp; done))) | (refine runK_go ?_ ?_; (focus (simp; done)); (conv => { arg 4; simp (disch := omega) [if_pos, if_neg, h4, h0, row, hi', hlen, rx0, h3l0, RF.pv, RF.cells, h3] }); refine callU true rfl rfl ⟨_, Tryz.func16, rfl, rfl⟩ ?_; (conv => { arg 6; simp (disch := omega) [if_pos, if_neg, h4, h0, row, hi', hlen, rx0, h3l0, RF.pv, RF.cells, h3] }); refine callC_go (c1) rfl ?_; (conv => { arg 5; simp (disch := omega) [if_pos, if_neg, h4, h0, row, hi', hlen, rx0, h3l0, RF.pv, RF.cells, h3] })))); with_reducible refine runK_nil ?_; (first | refine ⟨rfl, ?_⟩ | refine ⟨by simp [quietB], by simp [quietU], ?_⟩ | skip)) | (refine WL.cond ?_; (conv => { arg 1; simp (disch := omega) [if_pos, if_neg, h4, h0, row, hi', hlen, rx0, h3l0, RF.pv, RF.cells, h3] }); (first | with_reducible refine condT ?_ | with_reducible refine condF ?_ | with_reducible refine condPT (by omega) ?_ | with_reducible refine condPF (by omega) ?_))))
      exact ⟨l.length - 1, by omega, 1, rfl, by omega, by simp [h0, row], by simp, .inr ⟨g 18, 0, by simp, by simp [htk0, RF.cells]⟩⟩
    · have hlt := rowC_len (l.take i)
      rw [List.length_take, Nat.min_eq_left hi] at hlt
      have htk1 : (rowC (l.take i)).take (i * 3) = rowC (l.take i) := List.take_of_length_le (by omega)
      (repeat (first | with_reducible refine WL.seq ?_ | with_reducible refine WL.skip ?_ | with_reducible refine WL.label ?_ | with_reducible refine WL.block ?_ | with_reducible refine WL.scope ?_ | with_reducible refine WL.nilS ?_ | with_reducible refine WL.reS ?_ | with_reducible refine WL.exS ?_ | with_reducible refine WL.nilB ?_ | with_reducible refine WL.nilT ?_ | with_reducible refine WL.exit ?_ | with_reducible refine WL.ret ?_ | with_reducible refine WL.exT ?_ | with_reducible refine WL.exB ?_ | with_reducible refine WL.exN rfl ?_ | with_reducible refine WL.reT ?_ | with_reducible refine WL.reB ?_ | ((first | refine WL.reg rfl ?_ | refine WL.regT mixed rfl ?_); (conv => { arg 3; simp [prep, prep1] }); (repeat (first | (refine runK_go ?_ ?_; (focus (simp; done)); (conv => { arg 4; simp (disch := omega) [if_pos, if_neg, h4, h0, row, hi', hlen, rx, h3l, RF.pv, RF.cells, h3, hst, hlt, htk1] }); (first | refine contK_val ?_ | (refine contK_go ?_; (conv => { arg 5; simp })))) | (refine skip_val rfl ?_ ?_; (focus (simp; done))) | (refine runK_go ?_ ?_; (focus (simp; done)); (conv => { arg 4; simp (disch := omega) [if_pos, if_neg, h4, h0, row, hi', hlen, rx, h3l, RF.pv, RF.cells, h3, hst, hlt, htk1] }); refine callU true rfl rfl ⟨_, Tryz.func16, rfl, rfl⟩ ?_; (conv => { arg 6; simp (disch := omega) [if_pos, if_neg, h4, h0, row, hi', hlen, rx, h3l, RF.pv, RF.cells, h3, hst, hlt, htk1] }); refine callC_go (c1) rfl ?_; (conv => { arg 5; simp (disch := omega) [if_pos, if_neg, h4, h0, row, hi', hlen, rx, h3l, RF.pv, RF.cells, h3, hst, hlt, htk1] })))); with_reducible refine runK_nil ?_; (first | refine ⟨rfl, ?_⟩ | refine ⟨by simp [quietB], by simp [quietU], ?_⟩ | skip)) | (refine WL.cond ?_; (conv => { arg 1; simp (disch := omega) [if_pos, if_neg, h4, h0, row, hi', hlen, rx, h3l, RF.pv, RF.cells, h3, hst, hlt, htk1] }); (first | with_reducible refine condT ?_ | with_reducible refine condF ?_ | with_reducible refine condPT (by omega) ?_ | with_reducible refine condPF (by omega) ?_))))
      exact ⟨l.length - (i + 1), by omega, i + 1, rfl, by omega, by simp [h0, row], by simp, .inr ⟨G, v + 1, by simp, by simp [htk, RF.cells]⟩⟩
  · have hia : i = l.length := by omega
    subst hia
    rcases h3 with ⟨h0', h3⟩ | ⟨G, v, h3, hst⟩
    · have : l = [] := List.eq_nil_of_length_eq_zero h0'
      subst this
      (repeat (first | with_reducible refine WL.seq ?_ | with_reducible refine WL.skip ?_ | with_reducible refine WL.label ?_ | with_reducible refine WL.block ?_ | with_reducible refine WL.scope ?_ | with_reducible refine WL.nilS ?_ | with_reducible refine WL.reS ?_ | with_reducible refine WL.exS ?_ | with_reducible refine WL.nilB ?_ | with_reducible refine WL.nilT ?_ | with_reducible refine WL.exit ?_ | with_reducible refine WL.ret ?_ | with_reducible refine WL.exT ?_ | with_reducible refine WL.exB ?_ | with_reducible refine WL.exN rfl ?_ | with_reducible refine WL.reT ?_ | with_reducible refine WL.reB ?_ | ((first | refine WL.reg rfl ?_ | refine WL.regT mixed rfl ?_); (conv => { arg 3; simp [prep, prep1] }); (repeat (first | (refine runK_go ?_ ?_; (focus (simp; done)); (conv => { arg 4; simp (disch := omega) [if_pos, if_neg, h4, h0, row, h3] }); (first | refine contK_val ?_ | (refine contK_go ?_; (conv => { arg 5; simp })))) | (refine skip_val rfl ?_ ?_; (focus (simp; done))))); with_reducible refine runK_nil ?_; (first | refine ⟨rfl, ?_⟩ | refine ⟨by simp [quietB], by simp [quietU], ?_⟩ | skip)) | (refine WL.cond ?_; (conv => { arg 1; simp (disch := omega) [if_pos, if_neg, h4, h0, row, h3] }); (first | with_reducible refine condT ?_ | with_reducible refine condF ?_ | with_reducible refine condPT (by omega) ?_ | with_reducible refine condPF (by omega) ?_))))
      refine ⟨[], ?_⟩
      simp (disch := omega) [if_pos, if_neg, row, rowC]
    · rw [List.take_length] at hst
      have htk1 : (rowC l).take (l.length * 3) = rowC l := List.take_of_length_le (by omega)
      (repeat (first | with_reducible refine WL.seq ?_ | with_reducible refine WL.skip ?_ | with_reducible refine WL.label ?_ | with_reducible refine WL.block ?_ | with_reducible refine WL.scope ?_ | with_reducible refine WL.nilS ?_ | with_reducible refine WL.reS ?_ | with_reducible refine WL.exS ?_ | with_reducible refine WL.nilB ?_ | with_reducible refine WL.nilT ?_ | with_reducible refine WL.exit ?_ | with_reducible refine WL.ret ?_ | with_reducible refine WL.exT ?_ | with_reducible refine WL.exB ?_ | with_reducible refine WL.exN rfl ?_ | with_reducible refine WL.reT ?_ | with_reducible refine WL.reB ?_ | ((first | refine WL.reg rfl ?_ | refine WL.regT mixed rfl ?_); (conv => { arg 3; simp [prep, prep1] }); (repeat (first | (refine runK_go ?_ ?_; (focus (simp; done)); (conv => { arg 4; simp (disch := omega) [if_pos, if_neg, h4, h0, row, h3, hst] }); (first | refine contK_val ?_ | (refine contK_go ?_; (conv => { arg 5; simp })))) | (refine skip_val rfl ?_ ?_; (focus (simp; done))))); with_reducible refine runK_nil ?_; (first | refine ⟨rfl, ?_⟩ | refine ⟨by simp [quietB], by simp [quietU], ?_⟩ | skip)) | (refine WL.cond ?_; (conv => { arg 1; simp (disch := omega) [if_pos, if_neg, h4, h0, row, h3, hst] }); (first | with_reducible refine condT ?_ | with_reducible refine condF ?_ | with_reducible refine condPT (by omega) ?_ | with_reducible refine condPF (by omega) ?_))))
      refine ⟨[], ?_⟩
      simp (disch := omega) [if_pos, if_neg, row, hst, hlen, htk1]

def longF (a : RF) (k : Nat) : Bool := decide (k < a.n.length) || decide (k < a.d.length)
theorem ref09Long (a : RF) (k : Nat) (hk : k ≤ 2513169434843) : CallOk Tryz.prog 12 [a.pv, .int .i64 k] [] (.bool (longF a k)) [] := by
  unfold longF
  by_cases h : k < a.n.length
  · refine CallOk.of_wl Tryz.func12 rfl rfl rfl (Nat.le_of_ble_eq_true rfl) ?_
    (repeat (first | with_reducible refine WL.seq ?_ | with_reducible refine WL.skip ?_ | with_reducible refine WL.label ?_ | with_reducible refine WL.block ?_ | with_reducible refine WL.scope ?_ | with_reducible refine WL.nilS ?_ | with_reducible refine WL.reS ?_ | with_reducible refine WL.exS ?_ | with_reducible refine WL.nilB ?_ | with_reducible refine WL.nilT ?_ | with_reducible refine WL.exit ?_ | with_reducible refine WL.ret ?_ | with_reducible refine WL.exT ?_ | with_reducible refine WL.exB ?_ | with_reducible refine WL.exN rfl ?_ | with_reducible refine WL.reT ?_ | with_reducible refine WL.reB ?_ | ((first | refine WL.reg rfl ?_ | refine WL.regT mixed rfl ?_); (conv => { arg 3; simp [prep, prep1] }); (repeat (first | (refine runK_go ?_ ?_; (focus (simp; done)); (conv => { arg 4; simp (disch := omega) [if_pos, if_neg, RF.pv, RF.cells, h] }); (first | refine contK_val ?_ | (refine contK_go ?_; (conv => { arg 5; simp })))) | (refine skip_val rfl ?_ ?_; (focus (simp; done))))); with_reducible refine runK_nil ?_; (first | refine ⟨rfl, ?_⟩ | refine ⟨by simp [quietB], by simp [quietU], ?_⟩ | skip)) | (refine WL.cond ?_; (conv => { arg 1; simp (disch := omega) [if_pos, if_neg, RF.pv, RF.cells, h] }); (first | with_reducible refine condT ?_ | with_reducible refine condF ?_ | with_reducible refine condPT (by omega) ?_ | with_reducible refine condPF (by omega) ?_))))
    refine ⟨[], ?_⟩
    simp (disch := omega) [if_pos, if_neg, h]
  · refine CallOk.of_wl Tryz.func12 rfl rfl rfl (Nat.le_of_ble_eq_true rfl) ?_
    (repeat (first | with_reducible refine WL.seq ?_ | with_reducible refine WL.skip ?_ | with_reducible refine WL.label ?_ | with_reducible refine WL.block ?_ | with_reducible refine WL.scope ?_ | with_reducible refine WL.nilS ?_ | with_reducible refine WL.reS ?_ | with_reducible refine WL.exS ?_ | with_reducible refine WL.nilB ?_ | with_reducible refine WL.nilT ?_ | with_reducible refine WL.exit ?_ | with_reducible refine WL.ret ?_ | with_reducible refine WL.exT ?_ | with_reducible refine WL.exB ?_ | with_reducible refine WL.exN rfl ?_ | with_reducible refine WL.reT ?_ | with_reducible refine WL.reB ?_ | ((first | refine WL.reg rfl ?_ | refine WL.regT mixed rfl ?_); (conv => { arg 3; simp [prep, prep1] }); (repeat (first | (refine runK_go ?_ ?_; (focus (simp; done)); (conv => { arg 4; simp (disch := omega) [if_pos, if_neg, RF.pv, RF.cells, h] }); (first | refine contK_val ?_ | (refine contK_go ?_; (conv => { arg 5; simp })))) | (refine skip_val rfl ?_ ?_; (focus (simp; done))))); with_reducible refine runK_nil ?_; (first | refine ⟨rfl, ?_⟩ | refine ⟨by simp [quietB], by simp [quietU], ?_⟩ | skip)) | (refine WL.cond ?_; (conv => { arg 1; simp (disch := omega) [if_pos, if_neg, RF.pv, RF.cells, h] }); (first | with_reducible refine condT ?_ | with_reducible refine condF ?_ | with_reducible refine condPT (by omega) ?_ | with_reducible refine condPF (by omega) ?_))))
    refine ⟨[], ?_⟩
    simp (disch := omega) [if_pos, if_neg, h]

def longR (l : List RF) (m k : Nat) : Bool := (l.take m).any (fun a => longF a k) || decide (m < l.length)
theorem ref11Long (l : List RF) (m k : Nat) (hm : m ≤ 1000) (hk : k ≤ 1000) (hl : l.length ≤ 2513169434843) : CallOk Tryz.prog 24 [row l, .int .i64 m, .int .i64 k] [] (.bool (longR l m k)) [] := by
  have hlen := rowC_len l
  refine CallOk.of_wl Tryz.func24 rfl rfl rfl (Nat.le_of_ble_eq_true rfl) ?_
  (repeat (first | with_reducible refine WL.seq ?_ | with_reducible refine WL.skip ?_ | with_reducible refine WL.label ?_ | with_reducible refine WL.block ?_ | with_reducible refine WL.scope ?_ | with_reducible refine WL.nilS ?_ | with_reducible refine WL.reS ?_ | with_reducible refine WL.exS ?_ | with_reducible refine WL.nilB ?_ | with_reducible refine WL.nilT ?_ | with_reducible refine WL.exit ?_ | with_reducible refine WL.ret ?_ | with_reducible refine WL.exT ?_ | with_reducible refine WL.exB ?_ | with_reducible refine WL.exN rfl ?_ | with_reducible refine WL.reT ?_ | with_reducible refine WL.reB ?_ | ((first | refine WL.reg rfl ?_ | refine WL.regT mixed rfl ?_); (conv => { arg 3; simp [prep, prep1] }); (repeat (first | (refine runK_go ?_ ?_; (focus (simp; done)); (conv => { arg 4; simp (disch := omega) [if_pos, if_neg, row] }); (first | refine contK_val ?_ | (refine contK_go ?_; (conv => { arg 5; simp })))) | (refine skip_val rfl ?_ ?_; (focus (simp; done))))); with_reducible refine runK_nil ?_; (first | refine ⟨rfl, ?_⟩ | refine ⟨by simp [quietB], by simp [quietU], ?_⟩ | skip)) | (refine WL.cond ?_; (conv => { arg 1; simp (disch := omega) [if_pos, if_neg, row] }); (first | with_reducible refine condT ?_ | with_reducible refine condF ?_ | with_reducible refine condPT (by omega) ?_ | with_reducible refine condPF (by omega) ?_))))
  refine WL.loop (fun v s => ∃ i : Nat, v = l.length - i ∧ i ≤ l.length ∧ i ≤ m ∧ s.frame 0 = row l ∧ s.frame 1 = .int .i64 m ∧ s.frame 2 = .int .i64 k ∧ s.frame 7 = .int .i64 i ∧ (l.take i).any (fun a => longF a k) = false) l.length ?_ ?_
  · exact ⟨0, by omega, by omega, by omega, by simp [row], by simp, by simp, by simp, by simp⟩
  rintro v ⟨f, σ, g⟩ ⟨i, rfl, hi, him, h0, h1, h2, h7, ha⟩
  simp only at h0 h1 h2 h7
  by_cases hi' : i < l.length
  · by_cases hi2 : i < m
    · have rx := rowC_at hi'
      have h3l : 3 ≤ (rowC l).length - i * 3 := by omega
      have htk : (l.take (i + 1)).any (fun a => longF a k) = longF (l[i]'hi') k := by
        rw [List.take_succ_eq_append_getElem hi', List.any_append, ha]; simp
      have hmem : l[i]'hi' ∈ l.take m := by
        rw [List.mem_take_iff_getElem]; exact ⟨i, by omega, rfl⟩
      have c1 := ref09Long (l[i]'hi') k (by omega)
      generalize l[i]'hi' = x at *
      cases hx : longF x k with
      | true =>
        rw [hx] at c1
        (repeat (first | with_reducible refine WL.seq ?_ | with_reducible refine WL.skip ?_ | with_reducible refine WL.label ?_ | with_reducible refine WL.block ?_ | with_reducible refine WL.scope ?_ | with_reducible refine WL.nilS ?_ | with_reducible refine WL.reS ?_ | with_reducible refine WL.exS ?_ | with_reducible refine WL.nilB ?_ | with_reducible refine WL.nilT ?_ | with_reducible refine WL.exit ?_ | with_reducible refine WL.ret ?_ | with_reducible refine WL.exT ?_ | with_reducible refine WL.exB ?_ | with_reducible refine WL.exN rfl ?_ | with_reducible refine WL.reT ?_ | with_reducible refine WL.reB ?_ | ((first | refine WL.reg rfl ?_ | refine WL.regT mixed rfl ?_); (conv => { arg 3; simp [prep, prep1] }); (repeat (first | (refine runK_go ?_ ?_; (focus (simp; done)); (conv => { arg 4; simp (disch := omega) [if_pos, if_neg, h0, h1, h2, h7, row, hi', hi2, rx, h3l, hlen, RF.pv, RF.cells] }); (first | refine contK_val ?_ | (refine contK_go ?_; (conv => { arg 5; simp })))) | (refine skip_val rfl ?_ ?_; (focus (simp; done))) | (refine runK_go ?_ ?_; (focus (simp; done)); (conv => { arg 4; simp (disch := omega) [if_pos, if_neg, h0, h1, h2, h7, row, hi', hi2, rx, h3l, hlen, RF.pv, RF.cells] }); refine callU true rfl rfl ⟨_, Tryz.func12, rfl, rfl⟩ ?_; (conv => { arg 6; simp (disch := omega) [if_pos, if_neg, h0, h1, h2, h7, row, hi', hi2, rx, h3l, hlen, RF.pv, RF.cells] }); refine callC_go (c1) rfl ?_; (conv => { arg 5; simp (disch := omega) [if_pos, if_neg, h0, h1, h2, h7, row, hi', hi2, rx, h3l, hlen, RF.pv, RF.cells] })))); with_reducible refine runK_nil ?_; (first | refine ⟨rfl, ?_⟩ | refine ⟨by simp [quietB], by simp [quietU], ?_⟩ | skip)) | (refine WL.cond ?_; (conv => { arg 1; simp (disch := omega) [if_pos, if_neg, h0, h1, h2, h7, row, hi', hi2, rx, h3l, hlen, RF.pv, RF.cells] }); (first | with_reducible refine condT ?_ | with_reducible refine condF ?_ | with_reducible refine condPT (by omega) ?_ | with_reducible refine condPF (by omega) ?_))))
        refine ⟨[], ?_⟩
        have : longR l m k = true := by
          unfold longR
          rw [Bool.or_eq_true, List.any_eq_true]
          exact .inl ⟨x, hmem, hx⟩
        simp (disch := omega) [if_pos, if_neg, this]
      | false =>
        rw [hx] at c1 htk
        (repeat (first | with_reducible refine WL.seq ?_ | with_reducible refine WL.skip ?_ | with_reducible refine WL.label ?_ | with_reducible refine WL.block ?_ | with_reducible refine WL.scope ?_ | with_reducible refine WL.nilS ?_ | with_reducible refine WL.reS ?_ | with_reducible refine WL.exS ?_ | with_reducible refine WL.nilB ?_ | with_reducible refine WL.nilT ?_ | with_reducible refine WL.exit ?_ | with_reducible refine WL.ret ?_ | with_reducible refine WL.exT ?_ | with_reducible refine WL.exB ?_ | with_reducible refine WL.exN rfl ?_ | with_reducible refine WL.reT ?_ | with_reducible refine WL.reB ?_ | ((first | refine WL.reg rfl ?_ | refine WL.regT mixed rfl ?_); (conv => { arg 3; simp [prep, prep1] }); (repeat (first | (refine runK_go ?_ ?_; (focus (simp; done)); (conv => { arg 4; simp (disch := omega) [if_pos, if_neg, h0, h1, h2, h7, row, hi', hi2, rx, h3l, hlen, RF.pv, RF.cells] }); (first | refine contK_val ?_ | (refine contK_go ?_; (conv => { arg 5; simp })))) | (refine skip_val rfl ?_ ?_; (focus (simp; done))) | (refine runK_go ?_ ?_; (focus (simp; done)); (conv => { arg 4; simp (disch := omega) [if_pos, if_neg, h0, h1, h2, h7, row, hi', hi2, rx, h3l, hlen, RF.pv, RF.cells] }); refine callU true rfl rfl ⟨_, Tryz.func12, rfl, rfl⟩ ?_; (conv => { arg 6; simp (disch := omega) [if_pos, if_neg, h0, h1, h2, h7, row, hi', hi2, rx, h3l, hlen, RF.pv, RF.cells] }); refine callC_go (c1) rfl ?_; (conv => { arg 5; simp (disch := omega) [if_pos, if_neg, h0, h1, h2, h7, row, hi', hi2, rx, h3l, hlen, RF.pv, RF.cells] })))); with_reducible refine runK_nil ?_; (first | refine ⟨rfl, ?_⟩ | refine ⟨by simp [quietB], by simp [quietU], ?_⟩ | skip)) | (refine WL.cond ?_; (conv => { arg 1; simp (disch := omega) [if_pos, if_neg, h0, h1, h2, h7, row, hi', hi2, rx, h3l, hlen, RF.pv, RF.cells] }); (first | with_reducible refine condT ?_ | with_reducible refine condF ?_ | with_reducible refine condPT (by omega) ?_ | with_reducible refine condPF (by omega) ?_))))
        exact ⟨l.length - (i + 1), by omega, i + 1, rfl, by omega, by omega, by simp [h0, row], by simp [h1], by simp [h2], by simp, htk⟩
    · have him' : i = m := by omega
      subst him'
      have e : longR l i k = decide (i < l.length) := by unfold longR; rw [ha]; rfl
      (repeat (first | with_reducible refine WL.seq ?_ | with_reducible refine WL.skip ?_ | with_reducible refine WL.label ?_ | with_reducible refine WL.block ?_ | with_reducible refine WL.scope ?_ | with_reducible refine WL.nilS ?_ | with_reducible refine WL.reS ?_ | with_reducible refine WL.exS ?_ | with_reducible refine WL.nilB ?_ | with_reducible refine WL.nilT ?_ | with_reducible refine WL.exit ?_ | with_reducible refine WL.ret ?_ | with_reducible refine WL.exT ?_ | with_reducible refine WL.exB ?_ | with_reducible refine WL.exN rfl ?_ | with_reducible refine WL.reT ?_ | with_reducible refine WL.reB ?_ | ((first | refine WL.reg rfl ?_ | refine WL.regT mixed rfl ?_); (conv => { arg 3; simp [prep, prep1] }); (repeat (first | (refine runK_go ?_ ?_; (focus (simp; done)); (conv => { arg 4; simp (disch := omega) [if_pos, if_neg, h0, h1, h2, h7, row, hi', hi2] }); (first | refine contK_val ?_ | (refine contK_go ?_; (conv => { arg 5; simp })))) | (refine skip_val rfl ?_ ?_; (focus (simp; done))))); with_reducible refine runK_nil ?_; (first | refine ⟨rfl, ?_⟩ | refine ⟨by simp [quietB], by simp [quietU], ?_⟩ | skip)) | (refine WL.cond ?_; (conv => { arg 1; simp (disch := omega) [if_pos, if_neg, h0, h1, h2, h7, row, hi', hi2] }); (first | with_reducible refine condT ?_ | with_reducible refine condF ?_ | with_reducible refine condPT (by omega) ?_ | with_reducible refine condPF (by omega) ?_))))
      refine ⟨[], ?_⟩
      simp (disch := omega) [if_pos, if_neg, e, hi']
  · have hia : i = l.length := by omega
    subst hia
    have e : longR l m k = decide (m < l.length) := by
      unfold longR
      rw [List.take_length] at ha
      rw [List.take_of_length_le him, ha]; rfl
    (repeat (first | with_reducible refine WL.seq ?_ | with_reducible refine WL.skip ?_ | with_reducible refine WL.label ?_ | with_reducible refine WL.block ?_ | with_reducible refine WL.scope ?_ | with_reducible refine WL.nilS ?_ | with_reducible refine WL.reS ?_ | with_reducible refine WL.exS ?_ | with_reducible refine WL.nilB ?_ | with_reducible refine WL.nilT ?_ | with_reducible refine WL.exit ?_ | with_reducible refine WL.ret ?_ | with_reducible refine WL.exT ?_ | with_reducible refine WL.exB ?_ | with_reducible refine WL.exN rfl ?_ | with_reducible refine WL.reT ?_ | with_reducible refine WL.reB ?_ | ((first | refine WL.reg rfl ?_ | refine WL.regT mixed rfl ?_); (conv => { arg 3; simp [prep, prep1] }); (repeat (first | (refine runK_go ?_ ?_; (focus (simp; done)); (conv => { arg 4; simp (disch := omega) [if_pos, if_neg, h0, h1, h2, h7, row, hi'] }); (first | refine contK_val ?_ | (refine contK_go ?_; (conv => { arg 5; simp })))) | (refine skip_val rfl ?_ ?_; (focus (simp; done))))); with_reducible refine runK_nil ?_; (first | refine ⟨rfl, ?_⟩ | refine ⟨by simp [quietB], by simp [quietU], ?_⟩ | skip)) | (refine WL.cond ?_; (conv => { arg 1; simp (disch := omega) [if_pos, if_neg, h0, h1, h2, h7, row, hi'] }); (first | with_reducible refine condT ?_ | with_reducible refine condF ?_ | with_reducible refine condPT (by omega) ?_ | with_reducible refine condPF (by omega) ?_))))
    refine ⟨[], ?_⟩
    simp (disch := omega) [if_pos, if_neg, e]
end Go.Proofs.YthgldcflcmlgpaaGreatDoorE
end

section
/- The span that the law makes of its argument; whether it is too long. -/
-- x3
set_option linter.unusedVariables false
set_option linter.unusedSimpArgs false
namespace Go.Proofs.YthgldcflcmlgpaaGreatDoorE
open Go.RowKit
set_option maxRecDepth 100000
attribute [local simp] List.getElem?_cons_zero List.getElem?_cons_succ List.getElem?_nil wrap_i64 stOf st0 effF effC evalV evalL upd_n updI_n pv_t pv_c pv_g pv_f ofConst binV binI lenV foldV mx2 mn2 unV convV extractV idxV indexV fieldAddrV fieldV partV sliceV boundsV loadL live storeE appendE srcV litE makeE IntKind.bits copyE boxE allocE flatParts flatCs flatC allParts cellsOf solid leafB fillL frzL buildV fillP placeS eqFl eqCell St.eff St.put wrs callE renP renA renC renI nid newL renB noEff endK endR resA resL resV expP expA expC expN expL expBs expB idx thenQ blockQ wantK wrap_u32 wrap_u64_in beqI bneI w32 wl fdiv_pos Int.natCast_inj

set_option maxHeartbeats 2000000 in
theorem law41To (c : Spn) (h0 : c.y0.length ≤ 2513169434843) (h1 : c.y1.length ≤ 2513169434843) (h2 : c.f0.length ≤ 2513169434843) (h3 : c.f1.length ≤ 2513169434843) : CallOk Tryz.prog 15 [c.pv] [] c.pv [] := by
  have k1 := law09To c.t
  have k2 := law09To c.h
  have k3 := law11To c.y0 h0
  have k4 := law11To c.y1 h1
  have k5 := law11To c.f0 h2
  have k6 := law11To c.f1 h3
  obtain ⟨t, h, y0, y1, f0, f1⟩ := c
  simp only [Spn.pv, Spn.cells] at *
  refine CallOk.of_wl Tryz.func15 rfl rfl rfl (Nat.le_of_ble_eq_true rfl) ?_
  (repeat (first | with_reducible refine WL.seq ?_ | with_reducible refine WL.skip ?_ | with_reducible refine WL.label ?_ | with_reducible refine WL.block ?_ | with_reducible refine WL.scope ?_ | with_reducible refine WL.nilS ?_ | with_reducible refine WL.reS ?_ | with_reducible refine WL.exS ?_ | with_reducible refine WL.nilB ?_ | with_reducible refine WL.nilT ?_ | with_reducible refine WL.exit ?_ | with_reducible refine WL.ret ?_ | with_reducible refine WL.exT ?_ | with_reducible refine WL.exB ?_ | with_reducible refine WL.exN rfl ?_ | with_reducible refine WL.reT ?_ | with_reducible refine WL.reB ?_ | ((first | refine WL.reg rfl ?_ | refine WL.regT mixed rfl ?_); (conv => { arg 3; simp [prep, prep1] }); (repeat (first | (refine runK_go ?_ ?_; (focus (simp; done)); (conv => { arg 4; simp (disch := omega) [if_pos, if_neg, row, RF.pv, RF.cells] }); (first | refine contK_val ?_ | (refine contK_go ?_; (conv => { arg 5; simp })))) | (refine skip_val rfl ?_ ?_; (focus (simp; done))) | (refine runK_go ?_ ?_; (focus (simp; done)); (conv => { arg 4; simp (disch := omega) [if_pos, if_neg, row, RF.pv, RF.cells] }); refine callU true rfl rfl ⟨_, Tryz.func16, rfl, rfl⟩ ?_; (conv => { arg 6; simp (disch := omega) [if_pos, if_neg, row, RF.pv, RF.cells] }); refine callC_go (k1) rfl ?_; (conv => { arg 5; simp (disch := omega) [if_pos, if_neg, row, RF.pv, RF.cells] })) | (refine runK_go ?_ ?_; (focus (simp; done)); (conv => { arg 4; simp (disch := omega) [if_pos, if_neg, row, RF.pv, RF.cells] }); refine callU true rfl rfl ⟨_, Tryz.func16, rfl, rfl⟩ ?_; (conv => { arg 6; simp (disch := omega) [if_pos, if_neg, row, RF.pv, RF.cells] }); refine callC_go (k2) rfl ?_; (conv => { arg 5; simp (disch := omega) [if_pos, if_neg, row, RF.pv, RF.cells] })) | (refine runK_go ?_ ?_; (focus (simp; done)); (conv => { arg 4; simp (disch := omega) [if_pos, if_neg, row, RF.pv, RF.cells] }); refine callU true rfl rfl ⟨_, Tryz.func25, rfl, rfl⟩ ?_; (conv => { arg 6; simp (disch := omega) [if_pos, if_neg, row, RF.pv, RF.cells] }); refine callC_go (k3) rfl ?_; (conv => { arg 5; simp (disch := omega) [if_pos, if_neg, row, RF.pv, RF.cells] })) | (refine runK_go ?_ ?_; (focus (simp; done)); (conv => { arg 4; simp (disch := omega) [if_pos, if_neg, row, RF.pv, RF.cells] }); refine callU true rfl rfl ⟨_, Tryz.func25, rfl, rfl⟩ ?_; (conv => { arg 6; simp (disch := omega) [if_pos, if_neg, row, RF.pv, RF.cells] }); refine callC_go (k4) rfl ?_; (conv => { arg 5; simp (disch := omega) [if_pos, if_neg, row, RF.pv, RF.cells] })) | (refine runK_go ?_ ?_; (focus (simp; done)); (conv => { arg 4; simp (disch := omega) [if_pos, if_neg, row, RF.pv, RF.cells] }); refine callU true rfl rfl ⟨_, Tryz.func25, rfl, rfl⟩ ?_; (conv => { arg 6; simp (disch := omega) [if_pos, if_neg, row, RF.pv, RF.cells] }); refine callC_go (k5) rfl ?_; (conv => { arg 5; simp (disch := omega) [if_pos, if_neg, row, RF.pv, RF.cells] })) | (refine runK_go ?_ ?_; (focus (simp; done)); (conv => { arg 4; simp (disch := omega) [if_pos, if_neg, row, RF.pv, RF.cells] }); refine callU true rfl rfl ⟨_, Tryz.func25, rfl, rfl⟩ ?_; (conv => { arg 6; simp (disch := omega) [if_pos, if_neg, row, RF.pv, RF.cells] }); refine callC_go (k6) rfl ?_; (conv => { arg 5; simp (disch := omega) [if_pos, if_neg, row, RF.pv, RF.cells] })))); with_reducible refine runK_nil ?_; (first | refine ⟨rfl, ?_⟩ | refine ⟨by simp [quietB], by simp [quietU], ?_⟩ | skip)) | (refine WL.cond ?_; (conv => { arg 1; simp (disch := omega) [if_pos, if_neg, row, RF.pv, RF.cells] }); (first | with_reducible refine condT ?_ | with_reducible refine condF ?_ | with_reducible refine condPT (by omega) ?_ | with_reducible refine condPF (by omega) ?_))))
  refine ⟨[], ?_⟩
  simp (disch := omega) [if_pos, if_neg, row]

def Spn.long (c : Spn) : Bool := longF c.t 2 || longF c.h 2 || longR c.y0 4 2 || longR c.y1 4 2 || longR c.f0 4 2 || longR c.f1 4 2

set_option maxHeartbeats 4000000 in
theorem law41Long (c : Spn) (h0 : c.y0.length ≤ 2513169434843) (h1 : c.y1.length ≤ 2513169434843) (h2 : c.f0.length ≤ 2513169434843) (h3 : c.f1.length ≤ 2513169434843) : CallOk Tryz.prog 11 [c.pv] [] (.bool c.long) [] := by
  have k1 := ref09Long c.t 2 (by decide)
  have k2 := ref09Long c.h 2 (by decide)
  have k3 := ref11Long c.y0 4 2 (by decide) (by decide) h0
  have k4 := ref11Long c.y1 4 2 (by decide) (by decide) h1
  have k5 := ref11Long c.f0 4 2 (by decide) (by decide) h2
  have k6 := ref11Long c.f1 4 2 (by decide) (by decide) h3
  unfold Spn.long
  generalize longF c.t 2 = b1 at *
  generalize longF c.h 2 = b2 at *
  generalize longR c.y0 4 2 = b3 at *
  generalize longR c.y1 4 2 = b4 at *
  generalize longR c.f0 4 2 = b5 at *
  generalize longR c.f1 4 2 = b6 at *
  obtain ⟨t, h, y0, y1, f0, f1⟩ := c
  simp only [Spn.pv, Spn.cells] at *
  clear h0 h1 h2 h3
  cases b1
  · cases b2
    · cases b3
      · cases b4
        · cases b5
          · refine CallOk.of_wl Tryz.func11 rfl rfl rfl (Nat.le_of_ble_eq_true rfl) ?_
            (repeat (first | with_reducible refine WL.seq ?_ | with_reducible refine WL.skip ?_ | with_reducible refine WL.label ?_ | with_reducible refine WL.block ?_ | with_reducible refine WL.scope ?_ | with_reducible refine WL.nilS ?_ | with_reducible refine WL.reS ?_ | with_reducible refine WL.exS ?_ | with_reducible refine WL.nilB ?_ | with_reducible refine WL.nilT ?_ | with_reducible refine WL.exit ?_ | with_reducible refine WL.ret ?_ | with_reducible refine WL.exT ?_ | with_reducible refine WL.exB ?_ | with_reducible refine WL.exN rfl ?_ | with_reducible refine WL.reT ?_ | with_reducible refine WL.reB ?_ | ((first | refine WL.reg rfl ?_ | refine WL.regT mixed rfl ?_); (conv => { arg 3; simp [prep, prep1] }); (repeat (first | (refine runK_go ?_ ?_; (focus (simp; done)); (conv => { arg 4; simp (disch := omega) [if_pos, if_neg, row, RF.pv, RF.cells] }); (first | refine contK_val ?_ | (refine contK_go ?_; (conv => { arg 5; simp })))) | (refine skip_val rfl ?_ ?_; (focus (simp; done))) | (refine runK_go ?_ ?_; (focus (simp; done)); (conv => { arg 4; simp (disch := omega) [if_pos, if_neg, row, RF.pv, RF.cells] }); refine callU true rfl rfl ⟨_, Tryz.func12, rfl, rfl⟩ ?_; (conv => { arg 6; simp (disch := omega) [if_pos, if_neg, row, RF.pv, RF.cells] }); refine callC_go (k1) rfl ?_; (conv => { arg 5; simp (disch := omega) [if_pos, if_neg, row, RF.pv, RF.cells] })) | (refine runK_go ?_ ?_; (focus (simp; done)); (conv => { arg 4; simp (disch := omega) [if_pos, if_neg, row, RF.pv, RF.cells] }); refine callU true rfl rfl ⟨_, Tryz.func12, rfl, rfl⟩ ?_; (conv => { arg 6; simp (disch := omega) [if_pos, if_neg, row, RF.pv, RF.cells] }); refine callC_go (k2) rfl ?_; (conv => { arg 5; simp (disch := omega) [if_pos, if_neg, row, RF.pv, RF.cells] })) | (refine runK_go ?_ ?_; (focus (simp; done)); (conv => { arg 4; simp (disch := omega) [if_pos, if_neg, row, RF.pv, RF.cells] }); refine callU true rfl rfl ⟨_, Tryz.func24, rfl, rfl⟩ ?_; (conv => { arg 6; simp (disch := omega) [if_pos, if_neg, row, RF.pv, RF.cells] }); refine callC_go (k3) rfl ?_; (conv => { arg 5; simp (disch := omega) [if_pos, if_neg, row, RF.pv, RF.cells] })) | (refine runK_go ?_ ?_; (focus (simp; done)); (conv => { arg 4; simp (disch := omega) [if_pos, if_neg, row, RF.pv, RF.cells] }); refine callU true rfl rfl ⟨_, Tryz.func24, rfl, rfl⟩ ?_; (conv => { arg 6; simp (disch := omega) [if_pos, if_neg, row, RF.pv, RF.cells] }); refine callC_go (k4) rfl ?_; (conv => { arg 5; simp (disch := omega) [if_pos, if_neg, row, RF.pv, RF.cells] })) | (refine runK_go ?_ ?_; (focus (simp; done)); (conv => { arg 4; simp (disch := omega) [if_pos, if_neg, row, RF.pv, RF.cells] }); refine callU true rfl rfl ⟨_, Tryz.func24, rfl, rfl⟩ ?_; (conv => { arg 6; simp (disch := omega) [if_pos, if_neg, row, RF.pv, RF.cells] }); refine callC_go (k5) rfl ?_; (conv => { arg 5; simp (disch := omega) [if_pos, if_neg, row, RF.pv, RF.cells] })) | (refine runK_go ?_ ?_; (focus (simp; done)); (conv => { arg 4; simp (disch := omega) [if_pos, if_neg, row, RF.pv, RF.cells] }); refine callU true rfl rfl ⟨_, Tryz.func24, rfl, rfl⟩ ?_; (conv => { arg 6; simp (disch := omega) [if_pos, if_neg, row, RF.pv, RF.cells] }); refine callC_go (k6) rfl ?_; (conv => { arg 5; simp (disch := omega) [if_pos, if_neg, row, RF.pv, RF.cells] })))); with_reducible refine runK_nil ?_; (first | refine ⟨rfl, ?_⟩ | refine ⟨by simp [quietB], by simp [quietU], ?_⟩ | skip)) | (refine WL.cond ?_; (conv => { arg 1; simp (disch := omega) [if_pos, if_neg, row, RF.pv, RF.cells] }); (first | with_reducible refine condT ?_ | with_reducible refine condF ?_ | with_reducible refine condPT (by omega) ?_ | with_reducible refine condPF (by omega) ?_))))
            refine ⟨[], ?_⟩
            simp (disch := omega) [if_pos, if_neg]
          · refine CallOk.of_wl Tryz.func11 rfl rfl rfl (Nat.le_of_ble_eq_true rfl) ?_
            (repeat (first | with_reducible refine WL.seq ?_ | with_reducible refine WL.skip ?_ | with_reducible refine WL.label ?_ | with_reducible refine WL.block ?_ | with_reducible refine WL.scope ?_ | with_reducible refine WL.nilS ?_ | with_reducible refine WL.reS ?_ | with_reducible refine WL.exS ?_ | with_reducible refine WL.nilB ?_ | with_reducible refine WL.nilT ?_ | with_reducible refine WL.exit ?_ | with_reducible refine WL.ret ?_ | with_reducible refine WL.exT ?_ | with_reducible refine WL.exB ?_ | with_reducible refine WL.exN rfl ?_ | with_reducible refine WL.reT ?_ | with_reducible refine WL.reB ?_ | ((first | refine WL.reg rfl ?_ | refine WL.regT mixed rfl ?_); (conv => { arg 3; simp [prep, prep1] }); (repeat (first | (refine runK_go ?_ ?_; (focus (simp; done)); (conv => { arg 4; simp (disch := omega) [if_pos, if_neg, row, RF.pv, RF.cells] }); (first | refine contK_val ?_ | (refine contK_go ?_; (conv => { arg 5; simp })))) | (refine skip_val rfl ?_ ?_; (focus (simp; done))) | (refine runK_go ?_ ?_; (focus (simp; done)); (conv => { arg 4; simp (disch := omega) [if_pos, if_neg, row, RF.pv, RF.cells] }); refine callU true rfl rfl ⟨_, Tryz.func12, rfl, rfl⟩ ?_; (conv => { arg 6; simp (disch := omega) [if_pos, if_neg, row, RF.pv, RF.cells] }); refine callC_go (k1) rfl ?_; (conv => { arg 5; simp (disch := omega) [if_pos, if_neg, row, RF.pv, RF.cells] })) | (refine runK_go ?_ ?_; (focus (simp; done)); (conv => { arg 4; simp (disch := omega) [if_pos, if_neg, row, RF.pv, RF.cells] }); refine callU true rfl rfl ⟨_, Tryz.func12, rfl, rfl⟩ ?_; (conv => { arg 6; simp (disch := omega) [if_pos, if_neg, row, RF.pv, RF.cells] }); refine callC_go (k2) rfl ?_; (conv => { arg 5; simp (disch := omega) [if_pos, if_neg, row, RF.pv, RF.cells] })) | (refine runK_go ?_ ?_; (focus (simp; done)); (conv => { arg 4; simp (disch := omega) [if_pos, if_neg, row, RF.pv, RF.cells] }); refine callU true rfl rfl ⟨_, Tryz.func24, rfl, rfl⟩ ?_; (conv => { arg 6; simp (disch := omega) [if_pos, if_neg, row, RF.pv, RF.cells] }); refine callC_go (k3) rfl ?_; (conv => { arg 5; simp (disch := omega) [if_pos, if_neg, row, RF.pv, RF.cells] })) | (refine runK_go ?_ ?_; (focus (simp; done)); (conv => { arg 4; simp (disch := omega) [if_pos, if_neg, row, RF.pv, RF.cells] }); refine callU true rfl rfl ⟨_, Tryz.func24, rfl, rfl⟩ ?_; (conv => { arg 6; simp (disch := omega) [if_pos, if_neg, row, RF.pv, RF.cells] }); refine callC_go (k4) rfl ?_; (conv => { arg 5; simp (disch := omega) [if_pos, if_neg, row, RF.pv, RF.cells] })) | (refine runK_go ?_ ?_; (focus (simp; done)); (conv => { arg 4; simp (disch := omega) [if_pos, if_neg, row, RF.pv, RF.cells] }); refine callU true rfl rfl ⟨_, Tryz.func24, rfl, rfl⟩ ?_; (conv => { arg 6; simp (disch := omega) [if_pos, if_neg, row, RF.pv, RF.cells] }); refine callC_go (k5) rfl ?_; (conv => { arg 5; simp (disch := omega) [if_pos, if_neg, row, RF.pv, RF.cells] })))); with_reducible refine runK_nil ?_; (first | refine ⟨rfl, ?_⟩ | refine ⟨by simp [quietB], by simp [quietU], ?_⟩ | skip)) | (refine WL.cond ?_; (conv => { arg 1; simp (disch := omega) [if_pos, if_neg, row, RF.pv, RF.cells] }); (first | with_reducible refine condT ?_ | with_reducible refine condF ?_ | with_reducible refine condPT (by omega) ?_ | with_reducible refine condPF (by omega) ?_))))
            refine ⟨[], ?_⟩
            simp (disch := omega) [if_pos, if_neg]
        · refine CallOk.of_wl Tryz.func11 rfl rfl rfl (Nat.le_of_ble_eq_true rfl) ?_
          (repeat (first | with_reducible refine WL.seq ?_ | with_reducible refine WL.skip ?_ | with_reducible refine WL.label ?_ | with_reducible refine WL.block ?_ | with_reducible refine WL.scope ?_ | with_reducible refine WL.nilS ?_ | with_reducible refine WL.reS ?_ | with_reducible refine WL.exS ?_ | with_reducible refine WL.nilB ?_ | with_reducible refine WL.nilT ?_ | with_reducible refine WL.exit ?_ | with_reducible refine WL.ret ?_ | with_reducible refine WL.exT ?_ | with_reducible refine WL.exB ?_ | with_reducible refine WL.exN rfl ?_ | with_reducible refine WL.reT ?_ | with_reducible refine WL.reB ?_ | ((first | refine WL.reg rfl ?_ | refine WL.regT mixed rfl ?_); (conv => { arg 3; simp [prep, prep1] }); (repeat (first | (refine runK_go ?_ ?_; (focus (simp; done)); (conv => { arg 4; simp (disch := omega) [if_pos, if_neg, row, RF.pv, RF.cells] }); (first | refine contK_val ?_ | (refine contK_go ?_; (conv => { arg 5; simp })))) | (refine skip_val rfl ?_ ?_; (focus (simp; done))) | (refine runK_go ?_ ?_; (focus (simp; done)); (conv => { arg 4; simp (disch := omega) [if_pos, if_neg, row, RF.pv, RF.cells] }); refine callU true rfl rfl ⟨_, Tryz.func12, rfl, rfl⟩ ?_; (conv => { arg 6; simp (disch := omega) [if_pos, if_neg, row, RF.pv, RF.cells] }); refine callC_go (k1) rfl ?_; (conv => { arg 5; simp (disch := omega) [if_pos, if_neg, row, RF.pv, RF.cells] })) | (refine runK_go ?_ ?_; (focus (simp; done)); (conv => { arg 4; simp (disch := omega) [if_pos, if_neg, row, RF.pv, RF.cells] }); refine callU true rfl rfl ⟨_, Tryz.func12, rfl, rfl⟩ ?_; (conv => { arg 6; simp (disch := omega) [if_pos, if_neg, row, RF.pv, RF.cells] }); refine callC_go (k2) rfl ?_; (conv => { arg 5; simp (disch := omega) [if_pos, if_neg, row, RF.pv, RF.cells] })) | (refine runK_go ?_ ?_; (focus (simp; done)); (conv => { arg 4; simp (disch := omega) [if_pos, if_neg, row, RF.pv, RF.cells] }); refine callU true rfl rfl ⟨_, Tryz.func24, rfl, rfl⟩ ?_; (conv => { arg 6; simp (disch := omega) [if_pos, if_neg, row, RF.pv, RF.cells] }); refine callC_go (k3) rfl ?_; (conv => { arg 5; simp (disch := omega) [if_pos, if_neg, row, RF.pv, RF.cells] })) | (refine runK_go ?_ ?_; (focus (simp; done)); (conv => { arg 4; simp (disch := omega) [if_pos, if_neg, row, RF.pv, RF.cells] }); refine callU true rfl rfl ⟨_, Tryz.func24, rfl, rfl⟩ ?_; (conv => { arg 6; simp (disch := omega) [if_pos, if_neg, row, RF.pv, RF.cells] }); refine callC_go (k4) rfl ?_; (conv => { arg 5; simp (disch := omega) [if_pos, if_neg, row, RF.pv, RF.cells] })))); with_reducible refine runK_nil ?_; (first | refine ⟨rfl, ?_⟩ | refine ⟨by simp [quietB], by simp [quietU], ?_⟩ | skip)) | (refine WL.cond ?_; (conv => { arg 1; simp (disch := omega) [if_pos, if_neg, row, RF.pv, RF.cells] }); (first | with_reducible refine condT ?_ | with_reducible refine condF ?_ | with_reducible refine condPT (by omega) ?_ | with_reducible refine condPF (by omega) ?_))))
          refine ⟨[], ?_⟩
          simp (disch := omega) [if_pos, if_neg]
      · refine CallOk.of_wl Tryz.func11 rfl rfl rfl (Nat.le_of_ble_eq_true rfl) ?_
        (repeat (first | with_reducible refine WL.seq ?_ | with_reducible refine WL.skip ?_ | with_reducible refine WL.label ?_ | with_reducible refine WL.block ?_ | with_reducible refine WL.scope ?_ | with_reducible refine WL.nilS ?_ | with_reducible refine WL.reS ?_ | with_reducible refine WL.exS ?_ | with_reducible refine WL.nilB ?_ | with_reducible refine WL.nilT ?_ | with_reducible refine WL.exit ?_ | with_reducible refine WL.ret ?_ | with_reducible refine WL.exT ?_ | with_reducible refine WL.exB ?_ | with_reducible refine WL.exN rfl ?_ | with_reducible refine WL.reT ?_ | with_reducible refine WL.reB ?_ | ((first | refine WL.reg rfl ?_ | refine WL.regT mixed rfl ?_); (conv => { arg 3; simp [prep, prep1] }); (repeat (first | (refine runK_go ?_ ?_; (focus (simp; done)); (conv => { arg 4; simp (disch := omega) [if_pos, if_neg, row, RF.pv, RF.cells] }); (first | refine contK_val ?_ | (refine contK_go ?_; (conv => { arg 5; simp })))) | (refine skip_val rfl ?_ ?_; (focus (simp; done))) | (refine runK_go ?_ ?_; (focus (simp; done)); (conv => { arg 4; simp (disch := omega) [if_pos, if_neg, row, RF.pv, RF.cells] }); refine callU true rfl rfl ⟨_, Tryz.func12, rfl, rfl⟩ ?_; (conv => { arg 6; simp (disch := omega) [if_pos, if_neg, row, RF.pv, RF.cells] }); refine callC_go (k1) rfl ?_; (conv => { arg 5; simp (disch := omega) [if_pos, if_neg, row, RF.pv, RF.cells] })) | (refine runK_go ?_ ?_; (focus (simp; done)); (conv => { arg 4; simp (disch := omega) [if_pos, if_neg, row, RF.pv, RF.cells] }); refine callU true rfl rfl ⟨_, Tryz.func12, rfl, rfl⟩ ?_; (conv => { arg 6; simp (disch := omega) [if_pos, if_neg, row, RF.pv, RF.cells] }); refine callC_go (k2) rfl ?_; (conv => { arg 5; simp (disch := omega) [if_pos, if_neg, row, RF.pv, RF.cells] })) | (refine runK_go ?_ ?_; (focus (simp; done)); (conv => { arg 4; simp (disch := omega) [if_pos, if_neg, row, RF.pv, RF.cells] }); refine callU true rfl rfl ⟨_, Tryz.func24, rfl, rfl⟩ ?_; (conv => { arg 6; simp (disch := omega) [if_pos, if_neg, row, RF.pv, RF.cells] }); refine callC_go (k3) rfl ?_; (conv => { arg 5; simp (disch := omega) [if_pos, if_neg, row, RF.pv, RF.cells] })))); with_reducible refine runK_nil ?_; (first | refine ⟨rfl, ?_⟩ | refine ⟨by simp [quietB], by simp [quietU], ?_⟩ | skip)) | (refine WL.cond ?_; (conv => { arg 1; simp (disch := omega) [if_pos, if_neg, row, RF.pv, RF.cells] }); (first | with_reducible refine condT ?_ | with_reducible refine condF ?_ | with_reducible refine condPT (by omega) ?_ | with_reducible refine condPF (by omega) ?_))))
        refine ⟨[], ?_⟩
        simp (disch := omega) [if_pos, if_neg]
    · refine CallOk.of_wl Tryz.func11 rfl rfl rfl (Nat.le_of_ble_eq_true rfl) ?_
      (repeat (first | with_reducible refine WL.seq ?_ | with_reducible refine WL.skip ?_ | with_reducible refine WL.label ?_ | with_reducible refine WL.block ?_ | with_reducible refine WL.scope ?_ | with_reducible refine WL.nilS ?_ | with_reducible refine WL.reS ?_ | with_reducible refine WL.exS ?_ | with_reducible refine WL.nilB ?_ | with_reducible refine WL.nilT ?_ | with_reducible refine WL.exit ?_ | with_reducible refine WL.ret ?_ | with_reducible refine WL.exT ?_ | with_reducible refine WL.exB ?_ | with_reducible refine WL.exN rfl ?_ | with_reducible refine WL.reT ?_ | with_reducible refine WL.reB ?_ | ((first | refine WL.reg rfl ?_ | refine WL.regT mixed rfl ?_); (conv => { arg 3; simp [prep, prep1] }); (repeat (first | (refine runK_go ?_ ?_; (focus (simp; done)); (conv => { arg 4; simp (disch := omega) [if_pos, if_neg, row, RF.pv, RF.cells] }); (first | refine contK_val ?_ | (refine contK_go ?_; (conv => { arg 5; simp })))) | (refine skip_val rfl ?_ ?_; (focus (simp; done))) | (refine runK_go ?_ ?_; (focus (simp; done)); (conv => { arg 4; simp (disch := omega) [if_pos, if_neg, row, RF.pv, RF.cells] }); refine callU true rfl rfl ⟨_, Tryz.func12, rfl, rfl⟩ ?_; (conv => { arg 6; simp (disch := omega) [if_pos, if_neg, row, RF.pv, RF.cells] }); refine callC_go (k1) rfl ?_; (conv => { arg 5; simp (disch := omega) [if_pos, if_neg, row, RF.pv, RF.cells] })) | (refine runK_go ?_ ?_; (focus (simp; done)); (conv => { arg 4; simp (disch := omega) [if_pos, if_neg, row, RF.pv, RF.cells] }); refine callU true rfl rfl ⟨_, Tryz.func12, rfl, rfl⟩ ?_; (conv => { arg 6; simp (disch := omega) [if_pos, if_neg, row, RF.pv, RF.cells] }); refine callC_go (k2) rfl ?_; (conv => { arg 5; simp (disch := omega) [if_pos, if_neg, row, RF.pv, RF.cells] })))); with_reducible refine runK_nil ?_; (first | refine ⟨rfl, ?_⟩ | refine ⟨by simp [quietB], by simp [quietU], ?_⟩ | skip)) | (refine WL.cond ?_; (conv => { arg 1; simp (disch := omega) [if_pos, if_neg, row, RF.pv, RF.cells] }); (first | with_reducible refine condT ?_ | with_reducible refine condF ?_ | with_reducible refine condPT (by omega) ?_ | with_reducible refine condPF (by omega) ?_))))
      refine ⟨[], ?_⟩
      simp (disch := omega) [if_pos, if_neg]
  · refine CallOk.of_wl Tryz.func11 rfl rfl rfl (Nat.le_of_ble_eq_true rfl) ?_
    (repeat (first | with_reducible refine WL.seq ?_ | with_reducible refine WL.skip ?_ | with_reducible refine WL.label ?_ | with_reducible refine WL.block ?_ | with_reducible refine WL.scope ?_ | with_reducible refine WL.nilS ?_ | with_reducible refine WL.reS ?_ | with_reducible refine WL.exS ?_ | with_reducible refine WL.nilB ?_ | with_reducible refine WL.nilT ?_ | with_reducible refine WL.exit ?_ | with_reducible refine WL.ret ?_ | with_reducible refine WL.exT ?_ | with_reducible refine WL.exB ?_ | with_reducible refine WL.exN rfl ?_ | with_reducible refine WL.reT ?_ | with_reducible refine WL.reB ?_ | ((first | refine WL.reg rfl ?_ | refine WL.regT mixed rfl ?_); (conv => { arg 3; simp [prep, prep1] }); (repeat (first | (refine runK_go ?_ ?_; (focus (simp; done)); (conv => { arg 4; simp (disch := omega) [if_pos, if_neg, row, RF.pv, RF.cells] }); (first | refine contK_val ?_ | (refine contK_go ?_; (conv => { arg 5; simp })))) | (refine skip_val rfl ?_ ?_; (focus (simp; done))) | (refine runK_go ?_ ?_; (focus (simp; done)); (conv => { arg 4; simp (disch := omega) [if_pos, if_neg, row, RF.pv, RF.cells] }); refine callU true rfl rfl ⟨_, Tryz.func12, rfl, rfl⟩ ?_; (conv => { arg 6; simp (disch := omega) [if_pos, if_neg, row, RF.pv, RF.cells] }); refine callC_go (k1) rfl ?_; (conv => { arg 5; simp (disch := omega) [if_pos, if_neg, row, RF.pv, RF.cells] })))); with_reducible refine runK_nil ?_; (first | refine ⟨rfl, ?_⟩ | refine ⟨by simp [quietB], by simp [quietU], ?_⟩ | skip)) | (refine WL.cond ?_; (conv => { arg 1; simp (disch := omega) [if_pos, if_neg, row, RF.pv, RF.cells] }); (first | with_reducible refine condT ?_ | with_reducible refine condF ?_ | with_reducible refine condPT (by omega) ?_ | with_reducible refine condPF (by omega) ?_))))
    refine ⟨[], ?_⟩
    simp (disch := omega) [if_pos, if_neg]

theorem longF_ok {a : RF} {k : Nat} (h : longF a k = false) (wn : wf a.n) (wd : wf a.d) : a.ok k := by
  simp only [longF, Bool.or_eq_false_iff, decide_eq_false_iff_not] at h
  exact ⟨wn, wd, by omega, by omega⟩
theorem longR_ok {l : List RF} {m k : Nat} (h : longR l m k = false) (w : ∀ x ∈ l, wf x.n ∧ wf x.d) : l.length ≤ m ∧ ∀ x ∈ l, x.ok k := by
  simp only [longR, Bool.or_eq_false_iff, decide_eq_false_iff_not] at h
  have hl : l.length ≤ m := by omega
  refine ⟨hl, fun x hx => ?_⟩
  rw [List.take_of_length_le hl, List.any_eq_false] at h
  exact longF_ok (by simpa using h.1 x hx) (w x hx).1 (w x hx).2
end Go.Proofs.YthgldcflcmlgpaaGreatDoorE
end

section
/- What is not too long is within bounds; two rows of the same values are the same. -/
-- x4
set_option linter.unusedVariables false
set_option linter.unusedSimpArgs false
namespace Go.Proofs.YthgldcflcmlgpaaGreatDoorE
open Go.RowKit
set_option maxRecDepth 100000
attribute [local simp] List.getElem?_cons_zero List.getElem?_cons_succ List.getElem?_nil wrap_i64 stOf st0 effF effC evalV evalL upd_n updI_n pv_t pv_c pv_g pv_f ofConst binV binI lenV foldV mx2 mn2 unV convV extractV idxV indexV fieldAddrV fieldV partV sliceV boundsV loadL live storeE appendE srcV litE makeE IntKind.bits copyE boxE allocE flatParts flatCs flatC allParts cellsOf solid leafB fillL frzL buildV fillP placeS eqFl eqCell St.eff St.put wrs callE renP renA renC renI nid newL renB noEff endK endR resA resL resV expP expA expC expN expL expBs expB idx thenQ blockQ wantK wrap_u32 wrap_u64_in beqI bneI w32 wl fdiv_pos Int.natCast_inj effG
attribute [local simp ↓] effG effC evalV evalL pv_t pv_c pv_g pv_f upd_n updI_n live

/-- What is known of a state is all that is needed of it. -/
theorem WL.fwd {P : Program} {nt : Nat} {cs : List Code} {Q : Exit → St → Prop} {s : St} (J : St → Prop) (h : J s) (k : ∀ s, J s → WL P nt cs Q s) : WL P nt cs Q s := k s h

def RF.wfR (a : RF) : Prop := wf a.n ∧ wf a.d
structure Spn.wfS (c : Spn) : Prop where
  t : c.t.wfR
  h : c.h.wfR
  y0 : ∀ x ∈ c.y0, x.wfR
  y1 : ∀ x ∈ c.y1, x.wfR
  f0 : ∀ x ∈ c.f0, x.wfR
  f1 : ∀ x ∈ c.f1, x.wfR
theorem longF_no {a : RF} {k : Nat} (h : longF a k = false) (hw : a.wfR) : a.ok k := by
  simp only [longF, Bool.or_eq_false_iff, decide_eq_false_iff_not] at h
  exact ⟨hw.1, hw.2, by omega, by omega⟩
theorem longR_no {l : List RF} {m k : Nat} (h : longR l m k = false) (hw : ∀ x ∈ l, x.wfR) : (∀ x ∈ l, x.ok k) ∧ l.length ≤ m := by
  simp only [longR, Bool.or_eq_false_iff, decide_eq_false_iff_not] at h
  obtain ⟨h1, h2⟩ := h
  rw [List.take_of_length_le (by omega), List.any_eq_false] at h1
  exact ⟨fun x hx => longF_no (by simpa using h1 x hx) (hw x hx), by omega⟩
theorem Spn.long_no {c : Spn} (h : c.long = false) (hw : c.wfS) : c.ok 2 ∧ c.y0.length ≤ 4 ∧ c.y1.length ≤ 4 ∧ c.f0.length ≤ 4 ∧ c.f1.length ≤ 4 := by
  simp only [Spn.long, Bool.or_eq_false_iff] at h
  obtain ⟨⟨⟨⟨⟨a, b⟩, d⟩, e⟩, f⟩, g⟩ := h
  obtain ⟨d1, d2⟩ := longR_no d hw.y0
  obtain ⟨e1, e2⟩ := longR_no e hw.y1
  obtain ⟨f1, f2⟩ := longR_no f hw.f0
  obtain ⟨g1, g2⟩ := longR_no g hw.f1
  exact ⟨⟨longF_no a hw.t, longF_no b hw.h, d1, e1, f1, g1⟩, d2, e2, f2, g2⟩
theorem Spn.ok.mono {c : Spn} {k m : Nat} (h : c.ok k) (hk : k ≤ m) : c.ok m :=
  ⟨h.t.mono hk, h.h.mono hk, fun x hx => (h.y0 x hx).mono hk, fun x hx => (h.y1 x hx).mono hk, fun x hx => (h.f0 x hx).mono hk, fun x hx => (h.f1 x hx).mono hk⟩

theorem sameQ (l : List Rat) (a : List RF) (e : l = qs a) (hs : ∀ q ∈ l, szQ q ≤ 65536) (ha : ∀ x ∈ a, x.ok 65536) (hl : a.length ≤ 4) : CallOk Tryz.prog 31 [rowQ l, row a] [] (.bool true) [] := by
  have h := rowSame (l.map RF.of) a (by
    intro x hx
    obtain ⟨q, hq, rfl⟩ := List.mem_map.1 hx
    exact RF.of_ok (Nat.le_trans (hs q hq) (by decide))) (fun x hx => (ha x hx).mono (by decide)) (by rw [List.length_map, e]; simp [qs]; omega) (by omega)
  have e2 : qs (l.map RF.of) = qs a := by
    rw [← e]; simp only [qs, List.map_map]
    conv => rhs; rw [← List.map_id l]
    exact List.map_congr_left fun q _ => RF.of_q q
  rw [decide_eq_true e2] at h
  exact h

end Go.Proofs.YthgldcflcmlgpaaGreatDoorE
end

section
/- A span's cubic has at its ends the states, and its derivative the slopes. -/
set_option linter.unusedVariables false
set_option linter.unusedSimpArgs false
namespace Go.Proofs.YthgldcflcmlgpaaGreatDoorE
open Go.RowKit

theorem mix4 {n : Nat} {a b c d : List Rat} (w0 w1 w2 w3 : Rat) (ha : a.length = n) (hb : b.length = n) (hc : c.length = n) (hd : d.length = n) :
    (mixQ n [(w0, a), (w1, b), (w2, c), (w3, d)]).length = n ∧ ∀ (i : Nat) (h : i < (mixQ n [(w0, a), (w1, b), (w2, c), (w3, d)]).length) (h1 : i < a.length) (h2 : i < b.length) (h3 : i < c.length) (h4 : i < d.length),
      (mixQ n [(w0, a), (w1, b), (w2, c), (w3, d)])[i] = 0 + w0 * a[i] + w1 * b[i] + w2 * c[i] + w3 * d[i] := by
  refine ⟨by simp [mixQ, addRow, zeroQ]; omega, fun i h h1 h2 h3 h4 => ?_⟩
  simp [mixQ, addRow, zeroQ]
theorem mix_to {n : Nat} {a b c d r : List Rat} (w0 w1 w2 w3 : Rat) (ha : a.length = n) (hb : b.length = n) (hc : c.length = n) (hd : d.length = n) (hr : r.length = n)
    (h : ∀ i (h1 : i < a.length) (h2 : i < b.length) (h3 : i < c.length) (h4 : i < d.length) (h5 : i < r.length), 0 + w0 * a[i] + w1 * b[i] + w2 * c[i] + w3 * d[i] = r[i]) : mixQ n [(w0, a), (w1, b), (w2, c), (w3, d)] = r := by
  obtain ⟨h1, h2⟩ := mix4 w0 w1 w2 w3 ha hb hc hd
  refine List.ext_getElem (by omega) fun i k1 k2 => ?_
  rw [h2 i k1 (by omega) (by omega) (by omega) (by omega)]
  exact h i _ _ _ _ k2

theorem sgnQ_ne {q : Rat} (h : 0 < sgnQ q) : q ≠ 0 := by
  intro e; subst e; simp [sgnQ, sgn] at h
theorem x_zero (c : Spn) : c.x c.t.q = 0 := by
  unfold Spn.x
  have : c.t.q - c.t.q = 0 := by grind
  rw [this]; simp [Rat.div_def]
theorem x_one (c : Spn) (h : c.h.q ≠ 0) : c.x (c.t.q + c.h.q) = 1 := by
  unfold Spn.x; grind

theorem ends (c : Spn) (hr : c.right = true) : c.atQ c.t.q = qs c.y0 ∧ c.atQ (c.t.q + c.h.q) = qs c.y1 ∧ c.slopeQ c.t.q = qs c.f0 ∧ c.slopeQ (c.t.q + c.h.q) = qs c.f1 := by
  obtain ⟨r1, r2, r3, r4, r5⟩ := right_spec hr
  have hh := sgnQ_ne r1
  have l0 : (qs c.y0).length = c.y0.length := by simp [qs]
  have l1 : (qs c.y1).length = c.y0.length := by simp [qs, r3]
  have l2 : (qs c.f0).length = c.y0.length := by simp [qs, r4]
  have l3 : (qs c.f1).length = c.y0.length := by simp [qs, r5]
  unfold Spn.atQ Spn.slopeQ
  rw [x_zero, x_one c hh]
  refine ⟨mix_to _ _ _ _ l0 l1 l2 l3 l0 fun i h1 h2 h3 h4 h5 => ?_, mix_to _ _ _ _ l0 l1 l2 l3 l1 fun i h1 h2 h3 h4 h5 => ?_, mix_to _ _ _ _ l0 l1 l2 l3 l2 fun i h1 h2 h3 h4 h5 => ?_, mix_to _ _ _ _ l0 l1 l2 l3 l3 fun i h1 h2 h3 h4 h5 => ?_⟩ <;>
    simp only [prodQ, List.foldl_cons, List.foldl_nil, Rat.div_def] <;> grind
end Go.Proofs.YthgldcflcmlgpaaGreatDoorE
end

section
/- Texts: the nine digits of a word. -/
-- x3
set_option linter.unusedVariables false
set_option linter.unusedSimpArgs false
namespace Go.Proofs.YthgldcflcmlgpaaGreatDoorE
open Go.RowKit
set_option maxRecDepth 100000
attribute [local simp] List.getElem?_cons_zero List.getElem?_cons_succ List.getElem?_nil wrap_i64 stOf st0 effF effC evalV evalL upd_n updI_n pv_t pv_c pv_g pv_f ofConst binV binI lenV foldV mx2 mn2 unV convV extractV idxV indexV fieldAddrV fieldV partV sliceV boundsV loadL live storeE appendE srcV litE makeE IntKind.bits copyE boxE allocE flatParts flatCs flatC allParts cellsOf solid leafB fillL frzL buildV fillP placeS eqFl eqCell St.eff St.put wrs callE renP renA renC renI nid newL renB noEff endK endR resA resL resV expP expA expC expN expL expBs expB idx thenQ blockQ wantK wrap_u32 wrap_u64_in beqI bneI w32 wl fdiv_pos Int.natCast_inj

/-- The bytes of a list of numbers. -/
def bytesN (l : List Nat) : ByteArray := ⟨(l.map UInt8.ofNat).toArray⟩
theorem fold_bytes (l : List Nat) (s : ByteArray) : (l.map fun d : Nat => (d : Int)).foldl (fun r n => r.push (UInt8.ofNat n.toNat)) s = ⟨s.data ++ (l.map UInt8.ofNat).toArray⟩ := by
  induction l generalizing s with
  | nil => simp
  | cons a l ih =>
    simp only [List.map_cons, List.foldl_cons]
    rw [ih]
    simp [ByteArray.push]

/-- string(b) of bytes in a block of the call's own. -/
theorem bytesK {P : Program} {o : Oper} {s : St} {K : Eff → Prop} {src dst e : TypeId} {x : Operand} {id : Id} {ver off n : Nat} {blk : Blk} {l : List Nat} (ho : o.op = .convert src dst x)
    (hs : P.underlying src = some (.slice e)) (he : P.underlying e = some (.int .u8)) (hd : P.underlying dst = some .string) (hx : pv s.frame x = .sl id ver off n 1) (hl : live s.store id ver = some blk)
    (hn : l.length = n) (hc : (blk.cells.drop off).take n = l.map fun d : Nat => PV.int .u8 (d : Int)) (h0 : n ≠ 0)
    (hK : K ⟨.str (bytesN l), [id], [], false⟩) : contK P o s none K := by
  refine ⟨_, ⟨fun s' h1 h2 _ => sim_value fun c β a w hr => ?_⟩, hK⟩
  have hx' : pv s'.frame x = .sl id ver off n 1 := by rw [h1 x (by rw [ho]; simp [Op.operands])]; exact hx
  have hv := VR_pv (E := env c β s'.store w) hr.frame x
  rw [hx'] at hv
  have hl' : live s'.store id ver = some blk := by rw [live_congr (h2 id (by simp))]; exact hl
  obtain ⟨hb, hver⟩ := live_spec hl'
  have hsl := hv.sl_inv hb hver
  unfold SlAt at hsl
  cases hβ : β id with
  | none =>
    have : (env c β s'.store w).β id = none := hβ
    rw [this] at hsl
    exact absurd hsl.2 h0
  | some go =>
    obtain ⟨g, oo⟩ := go
    have hβ' : (env c β s'.store w).β id = some (g, oo) := hβ
    rw [hβ'] at hsl
    obtain ⟨cap, hval, _⟩ := hsl
    obtain ⟨_, cc, e', fz, hat⟩ := (hr.blocks id blk hb).at_ hβ'
    obtain ⟨us, a1, a2, a3⟩ := hat.At off
    have hlen : n ≤ (blk.cells.drop off).length := by
      have := congrArg List.length hc
      simp only [List.length_take, List.length_map, hn] at this
      omega
    have hcell : ∀ j, j < n → us j = .int .u8 ((l.getD j 0 : Nat) : Int) := fun j hj => by
      have hv := a2 j (by omega)
      have hg : (blk.cells.drop off).getD j .any = .int .u8 ((l.getD j 0 : Nat) : Int) := by
        have h3 := congrArg (fun z => z.getD j PV.any) hc
        simp only [getD_take _ _ _ hj] at h3
        rw [h3]
        simp [List.getD, List.getElem?_map, List.getElem?_eq_getElem (show j < l.length by omega)]
      rw [hg] at hv
      exact hv.int_inv
    refine ⟨.string (bytesN l), ?_, .str _⟩
    have hload := run_loadCells (P := P) w ⟨g, oo + off, none⟩ n us (fun j hj => a1 j (by omega))
    have hlist : (List.range n).map us = (l.map fun d : Nat => (d : Int)).map (Value.int .u8) := by
      apply List.ext_getElem
      · simp [hn]
      · intro j h1 h2
        simp only [List.length_map, List.length_range] at h1
        simp only [List.getElem_map, List.getElem_range]
        rw [hcell j h1]
        simp [List.getD, List.getElem?_eq_getElem (show j < l.length by omega)]
    rw [hlist] at hload
    simp only [execOp, ho, hval, Sem.run_bind, run_convert_bytes_string (P := P) w src dst e _ _ _ hs he hd]
    rw [run_bytesToString w _ _ _ _ hload, fold_bytes]
    simp [Sem.run_pure, bytesN]

/-- The last k digits, as bytes. -/
def digs (n : Nat) : Nat → List Nat
  | 0 => []
  | k + 1 => (48 + n / 10 ^ k % 10) :: digs n k
theorem digs_len (n k : Nat) : (digs n k).length = k := by induction k with | zero => rfl | succ k ih => simp [digs, ih]
def nineC (n k : Nat) : List PV := List.replicate (9 - k) (.int .u8 0) ++ (digs n k).map fun d => .int .u8 (d : Nat)
theorem nineC_len (n k : Nat) (h : k ≤ 9) : (nineC n k).length = 9 := by simp [nineC, digs_len]; omega

/-- digits.nine: the nine digits of a number. -/
theorem digitsNine (n : Nat) (h : n < 1000000000) : CallOk Tryz.prog 181 [.int .u32 n] [] (.str (bytesN (digs n 9))) [] := by
  refine CallOk.of_wl Tryz.func181 rfl rfl rfl (Nat.le_of_ble_eq_true rfl) ?_
  (repeat (first | with_reducible refine WL.seq ?_ | with_reducible refine WL.skip ?_ | with_reducible refine WL.label ?_ | with_reducible refine WL.block ?_ | with_reducible refine WL.scope ?_ | with_reducible refine WL.nilS ?_ | with_reducible refine WL.reS ?_ | with_reducible refine WL.exS ?_ | with_reducible refine WL.nilB ?_ | with_reducible refine WL.nilT ?_ | with_reducible refine WL.exit ?_ | with_reducible refine WL.ret ?_ | with_reducible refine WL.exT ?_ | with_reducible refine WL.exB ?_ | with_reducible refine WL.exN rfl ?_ | with_reducible refine WL.reT ?_ | with_reducible refine WL.reB ?_ | ((first | refine WL.reg rfl ?_ | refine WL.regT mixed rfl ?_); (conv => { arg 3; simp [prep, prep1] }); (repeat (first | (refine runK_go ?_ ?_; (focus (simp; done)); (conv => { arg 4; simp (disch := omega) [if_pos, if_neg] }); (first | refine contK_val ?_ | (refine contK_go ?_; (conv => { arg 5; simp })))) | (refine skip_val rfl ?_ ?_; (focus (simp; done))))); with_reducible refine runK_nil ?_; (first | refine ⟨rfl, ?_⟩ | refine ⟨by simp [quietB], by simp [quietU], ?_⟩ | skip)) | (refine WL.cond ?_; (conv => { arg 1; simp (disch := omega) [if_pos, if_neg] }); (first | with_reducible refine condT ?_ | with_reducible refine condF ?_ | with_reducible refine condPT (by omega) ?_ | with_reducible refine condPF (by omega) ?_))))
  refine WL.loop (fun m s => ∃ k : Nat, m = 9 - k ∧ k ≤ 9 ∧ s.frame 0 = .int .u32 ((n / 10 ^ k : Nat) : Int) ∧ s.frame 3 = .pt ⟨3, 0, 0⟩ 0 0 ∧ s.frame 4 = .int .i64 (8 - (k : Int)) ∧ s.store ⟨3, 0, 0⟩ = some ⟨0, true, false, nineC n k⟩) 9 ?_ ?_
  · exact ⟨0, by omega, by omega, by simp, by simp, by simp, by simp [nineC, digs]⟩
  rintro m ⟨f, σ, g⟩ ⟨k, rfl, hk, h0, h3, h4, hs⟩
  simp only at h0 h3 h4 hs
  have hl := nineC_len n k hk
  (repeat (first | with_reducible refine WL.seq ?_ | with_reducible refine WL.skip ?_ | with_reducible refine WL.label ?_ | with_reducible refine WL.block ?_ | with_reducible refine WL.scope ?_ | with_reducible refine WL.nilS ?_ | with_reducible refine WL.reS ?_ | with_reducible refine WL.exS ?_ | with_reducible refine WL.nilB ?_ | with_reducible refine WL.nilT ?_ | with_reducible refine WL.exit ?_ | with_reducible refine WL.ret ?_ | with_reducible refine WL.exT ?_ | with_reducible refine WL.exB ?_ | with_reducible refine WL.exN rfl ?_ | with_reducible refine WL.reT ?_ | with_reducible refine WL.reB ?_ | ((first | refine WL.reg rfl ?_ | refine WL.regT mixed rfl ?_); (conv => { arg 3; simp [prep, prep1] }); (repeat (first | (refine runK_go ?_ ?_; (focus (simp; done)); (conv => { arg 4; simp (disch := omega) [if_pos, if_neg, h0, h3, h4, hs, hl] }); (first | refine contK_val ?_ | (refine contK_go ?_; (conv => { arg 5; simp })))) | (refine skip_val rfl ?_ ?_; (focus (simp; done))))); with_reducible refine runK_nil ?_; (first | refine ⟨rfl, ?_⟩ | refine ⟨by simp [quietB], by simp [quietU], ?_⟩ | skip)) | (refine WL.cond ?_; (conv => { arg 1; simp (disch := omega) [if_pos, if_neg, h0, h3, h4, hs, hl] }); (first | with_reducible refine condT ?_ | with_reducible refine condF ?_ | with_reducible refine condPT (by omega) ?_ | with_reducible refine condPF (by omega) ?_))))
  refine WL.cond ?_; (conv => { arg 1; simp (disch := omega) [if_pos, if_neg] }); (first | refine condP ?_ ?_ | refine condB ?_ ?_)
  · intro hc
    generalize hx : n / 10 ^ k = x at h0
    have hx10 : n / 10 ^ (k + 1) = x / 10 := by rw [Nat.pow_succ, ← Nat.div_div_eq_div_mul, hx]
    have i1 : (8 - (k : Int)).toNat = 8 - k := by omega
    have i2 : (0 : Int) ≤ 8 - (k : Int) := by omega
    have i3 : 8 - (k : Int) < 9 := by omega
    (repeat (first | with_reducible refine WL.seq ?_ | with_reducible refine WL.skip ?_ | with_reducible refine WL.label ?_ | with_reducible refine WL.block ?_ | with_reducible refine WL.scope ?_ | with_reducible refine WL.nilS ?_ | with_reducible refine WL.reS ?_ | with_reducible refine WL.exS ?_ | with_reducible refine WL.nilB ?_ | with_reducible refine WL.nilT ?_ | with_reducible refine WL.exit ?_ | with_reducible refine WL.ret ?_ | with_reducible refine WL.exT ?_ | with_reducible refine WL.exB ?_ | with_reducible refine WL.exN rfl ?_ | with_reducible refine WL.reT ?_ | with_reducible refine WL.reB ?_ | ((first | refine WL.reg rfl ?_ | refine WL.regT mixed rfl ?_); (conv => { arg 3; simp [prep, prep1] }); (repeat (first | (refine runK_go ?_ ?_; (focus (simp; done)); (conv => { arg 4; simp (disch := omega) [if_pos, if_neg, h0, h3, h4, hs, hl, i1, i2, i3] }); (first | refine contK_val ?_ | (refine contK_go ?_; (conv => { arg 5; simp })))) | (refine skip_val rfl ?_ ?_; (focus (simp; done))))); with_reducible refine runK_nil ?_; (first | refine ⟨rfl, ?_⟩ | refine ⟨by simp [quietB], by simp [quietU], ?_⟩ | skip)) | (refine WL.cond ?_; (conv => { arg 1; simp (disch := omega) [if_pos, if_neg, h0, h3, h4, hs, hl, i1, i2, i3] }); (first | with_reducible refine condT ?_ | with_reducible refine condF ?_ | with_reducible refine condPT (by omega) ?_ | with_reducible refine condPF (by omega) ?_))))
    have hm : (48 + (x : Int) % 10) = ((48 + x % 10 : Nat) : Int) := by omega
    have hst : nineC n (k + 1) = (nineC n k).take (8 - k) ++ PV.int .u8 ((48 + x % 10 : Nat) : Int) :: (nineC n k).drop (8 - k + 1) := by
      have e1 : List.replicate (9 - k) (PV.int .u8 0) = List.replicate (8 - k) (PV.int .u8 0) ++ [PV.int .u8 0] := by
        rw [show 9 - k = (8 - k) + 1 by omega, List.replicate_succ']
      have e2 : (List.replicate (8 - k) (PV.int .u8 0)).length = 8 - k := by simp
      simp only [nineC, digs, show 9 - (k + 1) = 8 - k by omega, e1, List.append_assoc, List.map_cons, hx]
      rw [List.take_append_of_le_length (by omega), List.take_of_length_le (by omega), List.drop_append, List.drop_of_length_le (by omega), e2, show 8 - k + 1 - (8 - k) = 1 by omega]
      simp
    refine ⟨9 - (k + 1), by omega, k + 1, rfl, by omega, ?_, ?_, ?_, ?_⟩
    · have hxb : x ≤ n := by rw [← hx]; exact Nat.div_le_self _ _
      rw [hx10]
      simp
      omega
    · simp [h3]
    · simp; omega
    · have hw : IntKind.u8.wrap ((48 + ((x : Int)).tmod 10) % 4294967296) = ((48 + x % 10 : Nat) : Int) := by
        rw [Int.tmod_eq_emod_of_nonneg (by omega)]
        unfold IntKind.wrap
        simp [IntKind.bits, IntKind.signed]
        omega
      simp; rw [hst, hw]
  · intro hc
    have hk9 : k = 9 := by omega
    subst hk9
    (repeat (first | with_reducible refine WL.seq ?_ | with_reducible refine WL.skip ?_ | with_reducible refine WL.label ?_ | with_reducible refine WL.block ?_ | with_reducible refine WL.scope ?_ | with_reducible refine WL.nilS ?_ | with_reducible refine WL.reS ?_ | with_reducible refine WL.exS ?_ | with_reducible refine WL.nilB ?_ | with_reducible refine WL.nilT ?_ | with_reducible refine WL.exit ?_ | with_reducible refine WL.ret ?_ | with_reducible refine WL.exT ?_ | with_reducible refine WL.exB ?_ | with_reducible refine WL.exN rfl ?_ | with_reducible refine WL.reT ?_ | with_reducible refine WL.reB ?_ | ((first | refine WL.reg rfl ?_ | refine WL.regT mixed rfl ?_); (conv => { arg 3; simp [prep, prep1] }); (repeat (first | (refine runK_go ?_ ?_; (focus (simp; done)); (conv => { arg 4; simp (disch := omega) [if_pos, if_neg, h0, h3, h4, hs, hl] }); (first | refine contK_val ?_ | (refine contK_go ?_; (conv => { arg 5; simp })))) | (refine skip_val rfl ?_ ?_; (focus (simp; done))))); with_reducible refine runK_nil ?_; (first | refine ⟨rfl, ?_⟩ | refine ⟨by simp [quietB], by simp [quietU], ?_⟩ | skip)) | (refine WL.cond ?_; (conv => { arg 1; simp (disch := omega) [if_pos, if_neg, h0, h3, h4, hs, hl] }); (first | with_reducible refine condT ?_ | with_reducible refine condF ?_ | with_reducible refine condPT (by omega) ?_ | with_reducible refine condPF (by omega) ?_))))
    (first | refine WL.reg rfl ?_ | refine WL.regT mixed rfl ?_); (conv => { arg 3; simp [prep, prep1] }); (repeat (first | (refine runK_go ?_ ?_; (focus (simp; done)); (conv => { arg 4; simp (disch := omega) [if_pos, if_neg, h0, h3, h4, hs, hl] }); (first | refine contK_val ?_ | (refine contK_go ?_; (conv => { arg 5; simp })))) | (refine skip_val rfl ?_ ?_; (focus (simp; done)))))
    refine bytesK (l := digs n 9) rfl rfl rfl rfl (id := ⟨3, 0, 0⟩) (ver := 0) (off := 0) (n := 9) (blk := ⟨0, true, false, nineC n 9⟩) (by simp) (by simp [live, hs]) (digs_len n 9) (by simp [nineC, digs_len, List.take_of_length_le]) (by omega) ?_
    (conv => { arg 5; simp (disch := omega) [if_pos, if_neg] })
    (repeat (first | (refine runK_go ?_ ?_; (focus (simp; done)); (conv => { arg 4; simp (disch := omega) [if_pos, if_neg] }); (first | refine contK_val ?_ | (refine contK_go ?_; (conv => { arg 5; simp })))) | (refine skip_val rfl ?_ ?_; (focus (simp; done)))))
    with_reducible refine runK_nil ?_
    (repeat (first | with_reducible refine WL.seq ?_ | with_reducible refine WL.skip ?_ | with_reducible refine WL.label ?_ | with_reducible refine WL.block ?_ | with_reducible refine WL.scope ?_ | with_reducible refine WL.nilS ?_ | with_reducible refine WL.reS ?_ | with_reducible refine WL.exS ?_ | with_reducible refine WL.nilB ?_ | with_reducible refine WL.nilT ?_ | with_reducible refine WL.exit ?_ | with_reducible refine WL.ret ?_ | with_reducible refine WL.exT ?_ | with_reducible refine WL.exB ?_ | with_reducible refine WL.exN rfl ?_ | with_reducible refine WL.reT ?_ | with_reducible refine WL.reB ?_ | ((first | refine WL.reg rfl ?_ | refine WL.regT mixed rfl ?_); (conv => { arg 3; simp [prep, prep1] }); (repeat (first | (refine runK_go ?_ ?_; (focus (simp; done)); (conv => { arg 4; simp (disch := omega) [if_pos, if_neg] }); (first | refine contK_val ?_ | (refine contK_go ?_; (conv => { arg 5; simp })))) | (refine skip_val rfl ?_ ?_; (focus (simp; done))))); with_reducible refine runK_nil ?_; (first | refine ⟨rfl, ?_⟩ | refine ⟨by simp [quietB], by simp [quietU], ?_⟩ | skip)) | (refine WL.cond ?_; (conv => { arg 1; simp (disch := omega) [if_pos, if_neg] }); (first | with_reducible refine condT ?_ | with_reducible refine condF ?_ | with_reducible refine condPT (by omega) ?_ | with_reducible refine condPF (by omega) ?_))))
    refine ⟨[], ?_⟩
    simp (disch := omega) [if_pos, if_neg]
end Go.Proofs.YthgldcflcmlgpaaGreatDoorE
end

section
/- Texts: strings.TrimLeft and strings.Join, lifted from the shelf's contracts. -/
-- x3
set_option linter.unusedVariables false
set_option linter.unusedSimpArgs false
namespace Go.Proofs.YthgldcflcmlgpaaGreatDoorE
open Go.RowKit
set_option maxRecDepth 100000
attribute [local simp] List.getElem?_cons_zero List.getElem?_cons_succ List.getElem?_nil wrap_i64 stOf st0 effF effC evalV evalL upd_n updI_n pv_t pv_c pv_g pv_f ofConst binV binI lenV foldV mx2 mn2 unV convV extractV idxV indexV fieldAddrV fieldV partV sliceV boundsV loadL live storeE appendE srcV litE makeE IntKind.bits copyE boxE allocE flatParts flatCs flatC allParts cellsOf solid leafB fillL frzL buildV fillP placeS eqFl eqCell St.eff St.put wrs callE renP renA renC renI nid newL renB noEff endK endR resA resL resV expP expA expC expN expL expBs expB idx thenQ blockQ wantK wrap_u32 wrap_u64_in beqI bneI w32 wl fdiv_pos Int.natCast_inj

theorem stOf_nil (id : Id) : stOf [] id = none := by simp [stOf]
theorem Keeps.of_below {B : Nat} {I : Nat → Prop} {w w' : World} (hB : B ≤ w.heap.size) (h : Below w.heap.size w w') : Keeps B I w w' :=
  ⟨h.os, h.tape, h.output, h.size, fun k hk _ => h.block k (by omega), fun g N hr => Room.of_heap hr (h.block g hr.lt)⟩
/-- A call that answers a plain value and leaves everything that there was. -/
theorem CallOk.of_below {P : Program} {f : FuncId} {ps : List PV} {r : PV}
    (h : ∀ (c : Ctx) (β0 : Id → Option (Nat × Nat)) (args : Array Value), Entry c β0 ps [] args → ∃ v, (∀ E : Env, VR E r v) ∧ Calls P f args c.w0 fun e w' => e = .returned v ∧ Below c.w0.heap.size c.w0 w') : CallOk P f ps [] r [] := by
  intro c β0 args he
  obtain ⟨v, hv, hc⟩ := h c β0 args he
  refine hc.mono fun e w' ⟨h1, h2⟩ => ⟨v, β0, h1, Keeps.of_below (Nat.le_refl _) h2, hv _, ⟨fun id blk hb => ?_, fun id id' blk blk' g o o' hb => ?_⟩, fun id blk hb => ?_⟩
  · rw [show (env c β0 (stOf []) w').σ id = stOf [] id from rfl, stOf_nil] at hb; cases hb
  · rw [show (env c β0 (stOf []) w').σ id = stOf [] id from rfl, stOf_nil] at hb; cases hb
  · rw [stOf_nil] at hb; cases hb

theorem args2 {args : Array Value} (h : args.size = 2) : args = #[args.getD 0 undef, args.getD 1 undef] := by
  apply Array.ext
  · simp [h]
  · intro i h1 h2
    simp at h2
    rcases i with _ | _ | i
    · simp [Array.getD, h]
    · simp [Array.getD, h]
    · omega

/-- strings.TrimLeft at one byte. -/
theorem strTrim (s : ByteArray) (c : UInt8) (hc : c.toNat < 128) : CallOk Tryz.prog 182 [.str s, .str ⟨#[c]⟩] [] (.str ⟨(Lib.trimLeftB s.data.toList c).toArray⟩) [] := by
  refine CallOk.of_below fun cx β0 args he => ⟨.string ⟨(Lib.trimLeftB s.data.toList c).toArray⟩, fun E => .str _, ?_⟩
  have h0 := (he.vr 0 (by simp)).str_inv
  have h1 := (he.vr 1 (by simp)).str_inv
  rw [args2 (args := args) he.size, h0, h1]
  exact (Tryz.strings_TrimLeft_one s c hc cx.w0).mono fun e w' ⟨a, b⟩ => ⟨a, by rw [b]; exact Below.refl _ _⟩

/-- strings.Join of a list that is read. -/
theorem strJoin (xs : List ByteArray) (sep : ByteArray) (hN : xs.length ≤ 140737488355328) (hlen : (Lib.join (xs.map (·.data.toList)) sep.data.toList).length ≤ 140737488355328) :
    CallOk Tryz.prog 89 [.rd (xs.map PV.str) xs.length, .str sep] [] (.str ⟨(Lib.join (xs.map (·.data.toList)) sep.data.toList).toArray⟩) [] := by
  refine CallOk.of_below fun cx β0 args he => ⟨.string ⟨(Lib.join (xs.map (·.data.toList)) sep.data.toList).toArray⟩, fun E => .str _, ?_⟩
  have h0 := he.vr 0 (by simp)
  have h1 := (he.vr 1 (by simp)).str_inv
  rw [args2 (args := args) he.size, h1]
  obtain ⟨A, c, hv, hc, hrest⟩ := VR.rd_inv h0
  rw [hv]
  rcases hrest with hnil | ⟨a, us, hA, hD, u1, u2, u3⟩
  · have : xs = [] := by simpa using hnil
    subst this
    exact (Tryz.strings_Join_none A c sep cx.w0).mono fun e w' ⟨a, b⟩ => ⟨a, by rw [b]; exact Below.refl _ _⟩
  · by_cases hx : xs = []
    · subst hx
      exact (Tryz.strings_Join_none A c sep cx.w0).mono fun e w' ⟨a, b⟩ => ⟨a, by rw [b]; exact Below.refl _ _⟩
    subst hA
    have hpos : 0 < xs.length := List.length_pos_iff.2 hx
    have c0 := u1 0 (by simpa using hpos)
    obtain ⟨bk, o, sp⟩ := a
    have hsp : sp = none := by
      cases sp with
      | none => rfl
      | some q =>
        simp [Addr.add, World.cell?] at c0
        split at c0 <;> simp at c0
    subst hsp
    refine (Tryz.strings_Join bk o c xs sep cx.w0 (fun j x hj => ?_) hD.1 hN hc hlen).mono fun e w' ⟨a, b⟩ => ⟨a, b⟩
    have hj' : j < xs.length := (List.getElem?_eq_some_iff.1 hj).1
    have k1 := u1 j (by simpa using hj')
    have k2 := u2 j (by simpa using hj')
    have k3 : (xs.map PV.str).getD j .any = .str x := by simp [List.getD, hj]
    rw [show [PV.rd (xs.map PV.str) xs.length, PV.str sep].getD 0 .any = PV.rd (xs.map PV.str) xs.length from rfl] at *
    rw [k3] at k2
    rw [add_lit] at k1
    rw [show cx.w0.cell? ⟨bk, o + j, none⟩ = some (us j) from k1, k2.str_inv]
end Go.Proofs.YthgldcflcmlgpaaGreatDoorE
end

section
/- From the engine's states down to the kit's walk, and back. -/
-- x3
set_option linter.unusedVariables false
set_option linter.unusedSimpArgs false
namespace Go.Proofs.YthgldcflcmlgpaaGreatDoorE
open Go.RowKit

theorem WL.low {P : Program} {nt : Nat} {Q : Exit → St → Prop} {s : St} {c : Code} (h : ∀ (cx : Ctx) (a : Act) (w : World), cx.nt = nt → Rel cx s a w → c.wp P (fun e a' w' => ∃ s', thenQ (WL P nt [] Q) Q e s' ∧ Rel cx s' a' w') a w) : WL P nt [c] Q s := h

/-- A list of texts in a block of the call's own, as it lies in memory. -/
theorem strs_at {cx : Ctx} {β : Id → Option (Nat × Nat)} {s : St} {a : Act} {w : World} (h : RelB cx β s a w) {t : Nat} {id : Id} {v n : Nat} {o fl : Bool} {l : List ByteArray} (h3 : s.frame t = .sl id v 0 n 1)
    (hs : s.store id = some ⟨v, o, fl, l.map PV.str⟩) (hn : l.length = n) (h0 : n ≠ 0) :
    ∃ g off cap, a.tmps.getD t undef = .slice (some ⟨g, off, none⟩) n cap ∧ n ≤ cap ∧ g < w.heap.size ∧ ∀ (j : Nat) x, l[j]? = some x → w.cell? ⟨g, off + j, none⟩ = some (.string x) := by
  have hv := h.frame t
  rw [h3] at hv
  have hsl := hv.sl_inv (blk := ⟨v, o, fl, l.map PV.str⟩) hs rfl
  unfold SlAt at hsl
  cases hβ : β id with
  | none =>
    have : (env cx β s.store w).β id = none := hβ
    rw [this] at hsl
    exact absurd hsl.2 h0
  | some go =>
    obtain ⟨g, oo⟩ := go
    have hβ' : (env cx β s.store w).β id = some (g, oo) := hβ
    rw [hβ'] at hsl
    obtain ⟨cap, hval, hc, _, _⟩ := hsl
    obtain ⟨_, cc, e', fz, hat⟩ := (h.blocks id _ hs).at_ hβ'
    obtain ⟨us, a1, a2, a3⟩ := hat.At 0
    refine ⟨g, oo, cap, by simpa using hval, hc, (h.blocks id _ hs).lt hβ', fun j x hj => ?_⟩
    have hj' : j < l.length := (List.getElem?_eq_some_iff.1 hj).1
    have k1 := a1 j (by simpa using hj')
    have k2 := a2 j (by simpa using hj')
    have k3 : ((l.map PV.str).drop 0).getD j .any = .str x := by simp [List.getD, hj]
    rw [k3] at k2
    rw [add_lit, Nat.add_zero] at k1
    rw [show w.cell? ⟨g, oo + j, none⟩ = some (us j) from k1, k2.str_inv]

theorem Env.Le.of_below {cx : Ctx} {β : Id → Option (Nat × Nat)} {σ : Id → Option Blk} {w w' : World} (h : Below w.heap.size w w') : (env cx β σ w).Le (env cx β σ w') :=
  ⟨fun g ⟨h1, h2, h3⟩ => ⟨Nat.lt_of_lt_of_le h1 h.size, h2, h3⟩, fun g hg => h.block g hg.1, fun g N hr => Room.of_heap hr (h.block g hr.lt), fun id blk hb => ⟨blk, hb, Nat.le_refl _, fun _ => rfl⟩⟩

/-- What was done apart from the blocks, and a text that it left in a place. -/
theorem Rel.after {cx : Ctx} {β : Id → Option (Nat × Nat)} {s : St} {a : Act} {w w' : World} (h : RelB cx β s a w) (hb : Below w.heap.size w w') (tm : Array Value) (hsz : tm.size = cx.nt) (t : Nat) (x : ByteArray) (ht : tm.getD t undef = .string x) :
    Rel cx ⟨fun u => if u = t then .str x else .any, s.store, s.gens⟩ ⟨tm, []⟩ w' := by
  have L := Env.Le.of_below (cx := cx) (β := β) (σ := s.store) hb
  refine ⟨β, h.keeps.trans (Keeps.of_below h.keeps.size hb), hsz, rfl, fun u => ?_, fun id blk hbk => ?_, h.inj, h.gens, h.io⟩
  · by_cases hu : u = t
    · subst hu
      simp only [if_pos]
      show VR _ _ (tm.getD u undef)
      rw [ht]; exact .str _
    · simp only [if_neg hu]; exact .any _
  · exact (h.blocks id blk hbk).mono L rfl fun g o hg => hb.block g ((h.blocks id blk hbk).lt hg)

theorem tmps_lit (tm : Array Value) (n : Nat) (h : tm.size = n) : tm = ((List.range n).map fun j => tm.getD j undef).toArray := by
  apply Array.ext
  · simp [h]
  · intro i h1 h2
    simp [Array.getD, h1]
open Go.Shelf in
/-- (*strings.Builder).WriteString, by strings.Join's closure (its own is not laid over this program). -/
theorem bWrite (B b : Nat) (bs : List Value) (s : ByteArray) (w : World) (h : Lib.IsBuilder 164 5 B b bs w) (hlen : bs.length + s.size ≤ 140737488355328) (hBw : B ≤ w.heap.size) :
    Calls Tryz.prog 143 #[.pointer (some ⟨b, 0, none⟩), .string s] w fun e w' => e = .returned (.tuple #[.int .i64 s.size, .nilIface]) ∧ (Lib.BuilderAt 164 5 B b (.pointer (some ⟨b, 0, none⟩)) (bs ++ Lib.strCells s) w' ∧ Below B w w') :=
  Any.Builder_WriteString { Tryz.lays156 with } Tryz.Builder_Extra_156 B b bs s w h hlen hBw
end Go.Proofs.YthgldcflcmlgpaaGreatDoorE
end

section
/- digits.Text: the pieces. -/
-- x3
set_option linter.unusedVariables false
set_option linter.unusedSimpArgs false
namespace Go.Proofs.YthgldcflcmlgpaaGreatDoorE
open Go.RowKit
set_option maxRecDepth 100000
attribute [local simp] List.getElem?_cons_zero List.getElem?_cons_succ List.getElem?_nil wrap_i64 stOf st0 effF effC evalV evalL upd_n updI_n pv_t pv_c pv_g pv_f ofConst binV binI lenV foldV mx2 mn2 unV convV extractV idxV indexV fieldAddrV fieldV partV sliceV boundsV loadL live storeE appendE srcV litE makeE IntKind.bits copyE boxE allocE flatParts flatCs flatC allParts cellsOf solid leafB fillL frzL buildV fillP placeS eqFl eqCell St.eff St.put wrs callE renP renA renC renI nid newL renB noEff endK endR resA resL resV expP expA expC expN expL expBs expB idx thenQ blockQ wantK wrap_u32 wrap_u64_in beqI bneI w32 wl fdiv_pos Int.natCast_inj

theorem digs_mod (n k : Nat) : ∀ j, j ≤ k → digs (n % 10 ^ k) j = digs n j := by
  intro j
  induction j with
  | zero => intro _; rfl
  | succ j ih =>
    intro h
    simp only [digs]
    rw [ih (by omega)]
    congr 2
    rw [show 10 ^ k = 10 ^ j * 10 ^ (k - j) by rw [← Nat.pow_add]; congr 1; omega, Nat.mod_mul_right_div_self]
    obtain ⟨m, hm⟩ : ∃ m, k - j = m + 1 := ⟨k - j - 1, by omega⟩
    rw [hm, Nat.pow_succ, Nat.mod_mul_left_mod]
theorem digs_add (n k : Nat) : ∀ j, digs n (k + j) = digs (n / 10 ^ k) j ++ digs n k := by
  intro j
  induction j with
  | zero => simp [digs]
  | succ j ih =>
    show digs n (k + j + 1) = _
    simp only [digs, ih, List.cons_append]
    rw [Nat.div_div_eq_div_mul, ← Nat.pow_add]

def pieceB (n j : Nat) : ByteArray := bytesN (digs (n / 10 ^ (9 * j)) 9)
def pieces (n i : Nat) : List ByteArray := (List.range i).map (pieceB n)
theorem pieces_len (n i : Nat) : (pieces n i).length = i := by simp [pieces]
theorem pieces_succ (n i : Nat) : pieces n (i + 1) = pieces n i ++ [pieceB n i] := by simp [pieces, List.range_succ]

theorem natZeroV (l : List Nat) (hw : wf l) (hl : l.length ≤ 1099511627776) : CallOk Tryz.prog 119 [wl l] [] (.bool (decide (val l = 0))) [] := by
  have h := natZero l hl
  have e : decide (trimL l = []) = decide (val l = 0) := by
    rw [trim_nw hw]
    by_cases h0 : val l = 0
    · rw [h0]; simp [nw_zero]
    · have : nw (val l) ≠ [] := by rw [nw_pos h0]; simp
      simp [this, h0]
  rw [e] at h; exact h

def bd (l : List Nat) : List UInt8 := l.map UInt8.ofNat
theorem pieceB_toList (n j : Nat) : (pieceB n j).data.toList = bd (digs (n / 10 ^ (9 * j)) 9) := by simp [pieceB, bytesN, bd]
theorem pieceB_size (n j : Nat) : (pieceB n j).size = 9 := by
  show (pieceB n j).data.size = 9
  rw [← Array.length_toList, pieceB_toList, bd, List.length_map, digs_len]
/-- What the builder holds when k pieces are left. -/
def heldD (n i k : Nat) : List UInt8 := bd (digs (n / 10 ^ (9 * k)) (9 * (i - k)))
theorem heldD_len (n i k : Nat) : (heldD n i k).length = 9 * (i - k) := by simp [heldD, bd, digs_len]
theorem heldD_step (n i k : Nat) (h : k + 1 ≤ i) : heldD n i k = heldD n i (k + 1) ++ (pieceB n k).data.toList := by
  rw [pieceB_toList, heldD, heldD, show 9 * (i - k) = 9 + 9 * (i - (k + 1)) by omega, digs_add, bd, bd, bd, List.map_append, Nat.div_div_eq_div_mul, ← Nat.pow_add, show 9 * k + 9 = 9 * (k + 1) by omega]

/-- A number's digits, as bytes: none of them is a nought ahead. -/
def decB (n : Nat) : ByteArray := ⟨(Lib.trimLeftB (bd (digs n n)) 48).toArray⟩
theorem digs_trim (n : Nat) {k : Nat} (h : n < 10 ^ k) : ∀ j, Lib.trimLeftB (bd (digs n (k + j))) 48 = Lib.trimLeftB (bd (digs n k)) 48
  | 0 => rfl
  | j + 1 => by
    rw [← digs_trim n h j]
    have hz : n / 10 ^ (k + j) = 0 := Nat.div_eq_of_lt (Nat.lt_of_lt_of_le h (Nat.pow_le_pow_right (by decide) (by omega)))
    show Lib.trimLeftB (bd (digs n (k + j + 1))) 48 = _
    simp [digs, hz, bd, Lib.trimLeftB]
theorem lt_ten_pow (n : Nat) : n < 10 ^ n := by
  induction n with
  | zero => decide
  | succ n ih => rw [Nat.pow_succ]; omega
theorem dec_of (n : Nat) {k : Nat} (h : n < 10 ^ k) : (⟨(Lib.trimLeftB (bd (digs n k)) 48).toArray⟩ : ByteArray) = decB n := by
  unfold decB
  have h1 := digs_trim n h n
  have h2 := digs_trim n (lt_ten_pow n) k
  rw [Nat.add_comm] at h2
  rw [← h1, h2]

theorem digitsTextN (a : List Nat) (hw : wf a) (hl : a.length ≤ 1000000) (hne : val a ≠ 0) : CallOk Tryz.prog 141 [wl a] [] (.str (decB (val a))) [] := by
  have z1 := natZeroV a hw (by omega)
  rw [decide_eq_false hne] at z1
  refine CallOk.of_wl Tryz.func141 rfl rfl rfl (Nat.le_of_ble_eq_true rfl) ?_
  (repeat (first | with_reducible refine WL.seq ?_ | with_reducible refine WL.skip ?_ | with_reducible refine WL.label ?_ | with_reducible refine WL.block ?_ | with_reducible refine WL.scope ?_ | with_reducible refine WL.nilS ?_ | with_reducible refine WL.reS ?_ | with_reducible refine WL.exS ?_ | with_reducible refine WL.nilB ?_ | with_reducible refine WL.nilT ?_ | with_reducible refine WL.exit ?_ | with_reducible refine WL.ret ?_ | with_reducible refine WL.exT ?_ | with_reducible refine WL.exB ?_ | with_reducible refine WL.exN rfl ?_ | with_reducible refine WL.reT ?_ | with_reducible refine WL.reB ?_ | ((first | refine WL.reg rfl ?_ | refine WL.regT mixed rfl ?_); (conv => { arg 3; simp [prep, prep1] }); (repeat (first | (refine runK_go ?_ ?_; (focus (simp; done)); (conv => { arg 4; simp (disch := omega) [if_pos, if_neg] }); (first | refine contK_val ?_ | (refine contK_go ?_; (conv => { arg 5; simp })))) | (refine skip_val rfl ?_ ?_; (focus (simp; done))) | (refine runK_go ?_ ?_; (focus (simp; done)); (conv => { arg 4; simp (disch := omega) [if_pos, if_neg] }); refine callU true rfl rfl ⟨_, Tryz.func119, rfl, rfl⟩ ?_; (conv => { arg 6; simp (disch := omega) [if_pos, if_neg] }); refine callC_go (z1) rfl ?_; (conv => { arg 5; simp (disch := omega) [if_pos, if_neg] })))); with_reducible refine runK_nil ?_; (first | refine ⟨rfl, ?_⟩ | refine ⟨by simp [quietB], by simp [quietU], ?_⟩ | skip)) | (refine WL.cond ?_; (conv => { arg 1; simp (disch := omega) [if_pos, if_neg] }); (first | with_reducible refine condT ?_ | with_reducible refine condF ?_ | with_reducible refine condPT (by omega) ?_ | with_reducible refine condPF (by omega) ?_))))
  refine WL.loop (fun m s => ∃ (i : Nat) (b : List Nat), m = val b ∧ wf b ∧ b.length ≤ a.length ∧ val b = val a / 10 ^ (9 * i) ∧ i ≤ 2000000 ∧ s.frame 0 = wl b ∧
    ((i = 0 ∧ s.frame 3 = .nilS) ∨ ∃ G v, s.frame 3 = .sl ⟨24, G, 0⟩ v 0 i 1 ∧ s.store ⟨24, G, 0⟩ = some ⟨v, true, true, (pieces (val a) i).map PV.str⟩)) (val a) ?_ ?_
  · exact ⟨0, a, rfl, hw, Nat.le_refl _, by simp, by omega, by simp [wl], .inl ⟨rfl, by simp⟩⟩
  rintro m ⟨f, σ, g⟩ ⟨i, b, rfl, hb, hlb, hvb, hi, h0, h3⟩
  simp only at h0 h3
  have z2 := natZeroV b hb (by omega)
  by_cases hb0 : val b = 0
  · rw [decide_eq_true hb0] at z2
    rcases h3 with ⟨hi0, h3⟩ | ⟨G, v, h3, hst⟩
    · subst hi0
      simp at hvb
      omega
    refine WL.seq ?_
    refine WL.seq ?_
    (first | refine WL.reg rfl ?_ | refine WL.regT mixed rfl ?_); (conv => { arg 3; simp [prep, prep1] }); (repeat (first | (refine runK_go ?_ ?_; (focus (simp; done)); (conv => { arg 4; simp (disch := omega) [if_pos, if_neg, h0, h3, hst] }); (first | refine contK_val ?_ | (refine contK_go ?_; (conv => { arg 5; simp })))) | (refine skip_val rfl ?_ ?_; (focus (simp; done))) | (refine runK_go ?_ ?_; (focus (simp; done)); (conv => { arg 4; simp (disch := omega) [if_pos, if_neg, h0, h3, hst] }); refine callU true rfl rfl ⟨_, Tryz.func119, rfl, rfl⟩ ?_; (conv => { arg 6; simp (disch := omega) [if_pos, if_neg, h0, h3, hst] }); refine callC_go (z2) rfl ?_; (conv => { arg 5; simp (disch := omega) [if_pos, if_neg, h0, h3, hst] })))); with_reducible refine runK_nil ?_; (first | refine ⟨rfl, ?_⟩ | refine ⟨by simp [quietB], by simp [quietU], ?_⟩ | skip)
    (repeat (first | (refine WL.cond ?_; (conv => { arg 1; simp }); (first | with_reducible refine condT ?_ | with_reducible refine condF ?_)) | with_reducible refine WL.exit ?_ | with_reducible refine WL.exT ?_ | with_reducible refine WL.exB ?_ | with_reducible refine WL.exN rfl ?_))
    refine WL.low fun cx act w hnt hR => ?_
    obtain ⟨β, hR⟩ := hR
    have hsz := hR.nt
    have hdf := hR.defers
    rw [hnt] at hsz
    have hi0 : i ≠ 0 := fun e => by
      subst e
      rw [hb0] at hvb
      simp at hvb
      omega
    obtain ⟨gb, off, cap, hv3, hcap, hgb, hcell⟩ := strs_at (l := pieces (val a) i) hR (t := 3) (by simp [h3]) hst (pieces_len _ _) hi0
    have hcell' : ∀ j, j < i → w.cell? ⟨gb, off + j, none⟩ = some (.string (pieceB (val a) j)) := fun j hj => hcell j _ (by simp [pieces, hj])
    clear hcell
    generalize hn : val a = n at *
    obtain ⟨tm, df⟩ := act
    simp only at hsz hdf hv3
    subst hdf
    have hsz40 : tm.size = 40 := hsz
    have hlit := tmps_lit tm 40 hsz40
    simp only [List.range, List.range.loop, List.map, hv3] at hlit
    have hfresh : Lib.IsBuilder 164 5 w.heap.size w.heap.size (Lib.byteCells (heldD n i i)) (w.alloc (.cells #[.pointer none, .slice none 0 0] 164)) := by
      have : heldD n i i = [] := by simp [heldD, bd, digs]
      rw [this]; exact Lib.fresh_isBuilder 164 5 w
    have hbel0 : Below w.heap.size w (w.alloc (.cells #[.pointer none, .slice none 0 0] 164)) := (Below.refl _ w).alloc (Nat.le_refl _) _
    have hafter := fun (w' : World) (hb : Below w.heap.size w w') (tm' : Array Value) (h40 : tm'.size = cx.nt) (t : Nat) (x : ByteArray) (ht : tm'.getD t undef = .string x) => Rel.after hR hb tm' h40 t x ht
    have HA := Any.hidJ hafter
    clear hafter hR
    rw [hlit]
    clear hlit hv3 hsz hsz40
    generalize tm.getD 0 undef = x0
    generalize tm.getD 1 undef = x1
    generalize tm.getD 2 undef = x2
    generalize tm.getD 4 undef = x4
    generalize tm.getD 5 undef = x5
    generalize tm.getD 6 undef = x6
    generalize tm.getD 7 undef = x7
    generalize tm.getD 8 undef = x8
    generalize tm.getD 9 undef = x9
    generalize tm.getD 10 undef = x10
    generalize tm.getD 11 undef = x11
    generalize tm.getD 12 undef = x12
    generalize tm.getD 13 undef = x13
    generalize tm.getD 14 undef = x14
    generalize tm.getD 15 undef = x15
    generalize tm.getD 16 undef = x16
    generalize tm.getD 17 undef = x17
    generalize tm.getD 18 undef = x18
    generalize tm.getD 19 undef = x19
    generalize tm.getD 20 undef = x20
    generalize tm.getD 21 undef = x21
    generalize tm.getD 22 undef = x22
    generalize tm.getD 23 undef = x23
    generalize tm.getD 24 undef = x24
    generalize tm.getD 25 undef = x25
    generalize tm.getD 26 undef = x26
    generalize tm.getD 27 undef = x27
    generalize tm.getD 28 undef = x28
    generalize tm.getD 29 undef = x29
    generalize tm.getD 30 undef = x30
    generalize tm.getD 31 undef = x31
    generalize tm.getD 32 undef = x32
    generalize tm.getD 33 undef = x33
    generalize tm.getD 34 undef = x34
    generalize tm.getD 35 undef = x35
    generalize tm.getD 36 undef = x36
    generalize tm.getD 37 undef = x37
    generalize tm.getD 38 undef = x38
    generalize tm.getD 39 undef = x39
    have hz9 := hb0
    clear h3 hst h0 z1 z2 hw hl hb hlb hb0 hcap
    have Hc := Any.hidJ hcell'
    have Hf := Any.hidJ hfresh
    have H0 := Any.hidJ hbel0
    clear hcell' hfresh hbel0
    go_wp2_with fail
    go_loopw [8] (fun t wr => ∃ k : Nat, k ≤ i ∧ t = .int .i64 ((k : Int) - 1) ∧ Hid (Lib.IsBuilder 164 5 w.heap.size w.heap.size (Lib.byteCells (heldD n i k)) wr) ∧ Hid (Below w.heap.size w wr)) (fun t _ => (intOf t + 1).toNat)
    case atStart => exact ⟨i, Nat.le_refl _, rfl, Hf, H0⟩
    case round =>
      obtain ⟨k, hk, rfl, HB, HW⟩ := hrel
      have hBw : w.heap.size ≤ wr.heap.size := HW.out.size
      by_cases hk0 : k = 0
      · subst hk0
        go_wp2_with fail
        refine (Tryz.Builder_String_any w.heap.size w.heap.size _ wr HB.out hBw).mono ?_
        rintro e w5 ⟨rfl, hb5⟩
        have Hb5 := Any.hidJ (HW.out.trans hb5)
        clear hb5
        go_wp2_with fail
        refine (Tryz.strings_TrimLeft_one ⟨(heldD n i 0).toArray⟩ 48 (by decide) w5).mono ?_
        rintro e w6 ⟨rfl, hw6⟩
        subst hw6
        go_wp2
        have hres : (⟨(Lib.trimLeftB (heldD n i 0) 48).toArray⟩ : ByteArray) = decB n := by
          have h0 : heldD n i 0 = bd (digs n (9 * i)) := by simp [heldD]
          rw [h0]
          refine dec_of n ?_
          rw [hz9] at hvb
          exact (Nat.div_eq_zero_iff_lt (Nat.pow_pos (by decide))).1 hvb.symm
        rw [hres]
        refine ⟨⟨fun u => if u = 2 then .str (decB n) else .any, σ, g⟩, ?_, HA.out _ Hb5.out _ (by rw [hnt]; rfl) 2 _ (by rfl)⟩
        simp only [thenQ]
        refine ⟨[], ?_⟩
        simp (disch := omega) [if_pos, if_neg]
      · obtain ⟨k, rfl⟩ : ∃ k', k = k' + 1 := ⟨k - 1, by omega⟩
        have hck : wr.cell? ⟨gb, off + k, none⟩ = some (.string (pieceB n k)) := by
          rw [HW.out.cell (p := ⟨gb, off + k, none⟩) hgb]; exact Hc.out k (by omega)
        have hkc : (((k + 1 : Nat) : Int) - 1) = (k : Int) := by omega
        rw [hkc]
        have hstep := heldD_step n i k hk
        have hlenD := heldD_len n i (k + 1)
        go_wp2_with fail
        refine (bWrite w.heap.size w.heap.size _ (pieceB n k) wr HB.out (by rw [Lib.byteCells_length, hlenD, pieceB_size]; omega) hBw).mono ?_
        rintro e w2 ⟨rfl, h2, hb2⟩
        rw [Lib.strCells_eq, ← Lib.byteCells_append, ← hstep] at h2
        have H2 := Any.hidJ (Or.inr h2 : Lib.IsBuilder 164 5 w.heap.size w.heap.size _ w2)
        have Hb2 := Any.hidJ (HW.out.trans hb2)
        clear h2 hb2 hstep hlenD
        go_wp2
        exact ⟨⟨k, by omega, by go_num, H2, Hb2⟩, by simp [intOf]⟩
  · rw [decide_eq_false hb0] at z2
    have hq := quotWord b 1000000000 hb (by omega) (by omega) (by omega)
    have hlen9 : i < 2000000 := by
      refine Nat.lt_of_not_le fun hge => hb0 ?_
      rw [hvb]
      refine Nat.div_eq_of_lt (Nat.lt_of_lt_of_le (val_lt hw) ?_)
      calc 4294967296 ^ a.length ≤ (10 ^ 10) ^ a.length := Nat.pow_le_pow_left (by decide) _
        _ = 10 ^ (10 * a.length) := by rw [← Nat.pow_mul]
        _ ≤ 10 ^ (9 * i) := Nat.pow_le_pow_right (by decide) (by omega)
    have hd9 := digitsNine (val b % 1000000000) (by omega)
    have hwb : wf (nw (val b / 1000000000)) := wf_nw _
    have hnw : (nw (val b / 1000000000)).length ≤ a.length := Nat.le_trans (nw_len_mono (Nat.div_le_self _ _)) (Nat.le_trans (nw_norm_len hb) hlb)
    have hpc : bytesN (digs (val b % 1000000000) 9) = pieceB (val a) i := by
      rw [show 1000000000 = 10 ^ 9 by decide, digs_mod _ _ _ (by omega), hvb]; rfl
    rw [hpc] at hd9
    have hvn : val (nw (val b / 1000000000)) = val a / 10 ^ (9 * (i + 1)) := by
      rw [val_nw, hvb, Nat.div_div_eq_div_mul, show 9 * (i + 1) = 9 * i + 9 by omega, Nat.pow_add]
    have hlt : val (nw (val b / 1000000000)) < val b := by
      rw [val_nw]; exact Nat.div_lt_self (by omega) (by omega)
    generalize nw (val b / 1000000000) = bb at *
    generalize val b % 1000000000 = r at *
    rcases h3 with ⟨hi0, h3⟩ | ⟨G, v, h3, hst⟩
    · subst hi0
      (repeat (first | with_reducible refine WL.seq ?_ | with_reducible refine WL.skip ?_ | with_reducible refine WL.label ?_ | with_reducible refine WL.block ?_ | with_reducible refine WL.scope ?_ | with_reducible refine WL.nilS ?_ | with_reducible refine WL.reS ?_ | with_reducible refine WL.exS ?_ | with_reducible refine WL.nilB ?_ | with_reducible refine WL.nilT ?_ | with_reducible refine WL.exit ?_ | with_reducible refine WL.ret ?_ | with_reducible refine WL.exT ?_ | with_reducible refine WL.exB ?_ | with_reducible refine WL.exN rfl ?_ | with_reducible refine WL.reT ?_ | with_reducible refine WL.reB ?_ | ((first | refine WL.reg rfl ?_ | refine WL.regT mixed rfl ?_); (conv => { arg 3; simp [prep, prep1] }); (repeat (first | (refine runK_go ?_ ?_; (focus (simp; done)); (conv => { arg 4; simp (disch := omega) [if_pos, if_neg, h0, h3] }); (first | refine contK_val ?_ | (refine contK_go ?_; (conv => { arg 5; simp })))) | (refine skip_val rfl ?_ ?_; (focus (simp; done))) | (refine runK_go ?_ ?_; (focus (simp; done)); (conv => { arg 4; simp (disch := omega) [if_pos, if_neg, h0, h3] }); refine callU true rfl rfl ⟨_, Tryz.func119, rfl, rfl⟩ ?_; (conv => { arg 6; simp (disch := omega) [if_pos, if_neg, h0, h3] }); refine callC_go (z2) rfl ?_; (conv => { arg 5; simp (disch := omega) [if_pos, if_neg, h0, h3] })) | (refine runK_go ?_ ?_; (focus (simp; done)); (conv => { arg 4; simp (disch := omega) [if_pos, if_neg, h0, h3] }); refine callU true rfl rfl ⟨_, Tryz.func180, rfl, rfl⟩ ?_; (conv => { arg 6; simp (disch := omega) [if_pos, if_neg, h0, h3] }); refine callC_go (hq) rfl ?_; (conv => { arg 5; simp (disch := omega) [if_pos, if_neg, h0, h3] })) | (refine runK_go ?_ ?_; (focus (simp; done)); (conv => { arg 4; simp (disch := omega) [if_pos, if_neg, h0, h3] }); refine callU true rfl rfl ⟨_, Tryz.func181, rfl, rfl⟩ ?_; (conv => { arg 6; simp (disch := omega) [if_pos, if_neg, h0, h3] }); refine callC_go (hd9) rfl ?_; (conv => { arg 5; simp (disch := omega) [if_pos, if_neg, h0, h3] })))); with_reducible refine runK_nil ?_; (first | refine ⟨rfl, ?_⟩ | refine ⟨by simp [quietB], by simp [quietU], ?_⟩ | skip)) | (refine WL.cond ?_; (conv => { arg 1; simp (disch := omega) [if_pos, if_neg, h0, h3] }); (first | with_reducible refine condT ?_ | with_reducible refine condF ?_ | with_reducible refine condPT (by omega) ?_ | with_reducible refine condPF (by omega) ?_))))
      exact ⟨val bb, hlt, 1, bb, rfl, hwb, hnw, hvn, by omega, by simp [wl], .inr ⟨g 24, 0, by simp, by simp [pieces, List.range_succ]⟩⟩
    · have hsucc : (pieces (val a) (i + 1)).map PV.str = (pieces (val a) i).map PV.str ++ [PV.str (pieceB (val a) i)] := by rw [pieces_succ]; simp
      have hL : ((pieces (val a) i).map PV.str).length = i := by simp [pieces_len]
      generalize (pieces (val a) i).map PV.str = L at *
      have hLt : L.take i = L := List.take_of_length_le (by omega)
      (repeat (first | with_reducible refine WL.seq ?_ | with_reducible refine WL.skip ?_ | with_reducible refine WL.label ?_ | with_reducible refine WL.block ?_ | with_reducible refine WL.scope ?_ | with_reducible refine WL.nilS ?_ | with_reducible refine WL.reS ?_ | with_reducible refine WL.exS ?_ | with_reducible refine WL.nilB ?_ | with_reducible refine WL.nilT ?_ | with_reducible refine WL.exit ?_ | with_reducible refine WL.ret ?_ | with_reducible refine WL.exT ?_ | with_reducible refine WL.exB ?_ | with_reducible refine WL.exN rfl ?_ | with_reducible refine WL.reT ?_ | with_reducible refine WL.reB ?_ | ((first | refine WL.reg rfl ?_ | refine WL.regT mixed rfl ?_); (conv => { arg 3; simp [prep, prep1] }); (repeat (first | (refine runK_go ?_ ?_; (focus (simp; done)); (conv => { arg 4; simp (disch := omega) [if_pos, if_neg, h0, h3, hst, hL, hLt] }); (first | refine contK_val ?_ | (refine contK_go ?_; (conv => { arg 5; simp })))) | (refine skip_val rfl ?_ ?_; (focus (simp; done))) | (refine runK_go ?_ ?_; (focus (simp; done)); (conv => { arg 4; simp (disch := omega) [if_pos, if_neg, h0, h3, hst, hL, hLt] }); refine callU true rfl rfl ⟨_, Tryz.func119, rfl, rfl⟩ ?_; (conv => { arg 6; simp (disch := omega) [if_pos, if_neg, h0, h3, hst, hL, hLt] }); refine callC_go (z2) rfl ?_; (conv => { arg 5; simp (disch := omega) [if_pos, if_neg, h0, h3, hst, hL, hLt] })) | (refine runK_go ?_ ?_; (focus (simp; done)); (conv => { arg 4; simp (disch := omega) [if_pos, if_neg, h0, h3, hst, hL, hLt] }); refine callU true rfl rfl ⟨_, Tryz.func180, rfl, rfl⟩ ?_; (conv => { arg 6; simp (disch := omega) [if_pos, if_neg, h0, h3, hst, hL, hLt] }); refine callC_go (hq) rfl ?_; (conv => { arg 5; simp (disch := omega) [if_pos, if_neg, h0, h3, hst, hL, hLt] })) | (refine runK_go ?_ ?_; (focus (simp; done)); (conv => { arg 4; simp (disch := omega) [if_pos, if_neg, h0, h3, hst, hL, hLt] }); refine callU true rfl rfl ⟨_, Tryz.func181, rfl, rfl⟩ ?_; (conv => { arg 6; simp (disch := omega) [if_pos, if_neg, h0, h3, hst, hL, hLt] }); refine callC_go (hd9) rfl ?_; (conv => { arg 5; simp (disch := omega) [if_pos, if_neg, h0, h3, hst, hL, hLt] })))); with_reducible refine runK_nil ?_; (first | refine ⟨rfl, ?_⟩ | refine ⟨by simp [quietB], by simp [quietU], ?_⟩ | skip)) | (refine WL.cond ?_; (conv => { arg 1; simp (disch := omega) [if_pos, if_neg, h0, h3, hst, hL, hLt] }); (first | with_reducible refine condT ?_ | with_reducible refine condF ?_ | with_reducible refine condPT (by omega) ?_ | with_reducible refine condPF (by omega) ?_))))
      exact ⟨val bb, hlt, i + 1, bb, rfl, hwb, hnw, hvn, by omega, by simp [wl], .inr ⟨G, v + 1, by simp, by simp [hsucc]⟩⟩

/-- A number as a text. -/
def decS (n : Nat) : ByteArray := if n = 0 then ⟨#[48]⟩ else decB n
/-- digits.Text. -/
theorem digitsText (a : List Nat) (hw : wf a) (hl : a.length ≤ 1000000) : CallOk Tryz.prog 141 [wl a] [] (.str (decS (val a))) [] := by
  by_cases h : val a = 0
  · have z1 := natZeroV a hw (by omega)
    rw [decide_eq_true h] at z1
    rw [show decS (val a) = ⟨#[48]⟩ by simp [decS, h]]
    refine CallOk.of_wl Tryz.func141 rfl rfl rfl (Nat.le_of_ble_eq_true rfl) ?_
    (repeat (first | with_reducible refine WL.seq ?_ | with_reducible refine WL.skip ?_ | with_reducible refine WL.label ?_ | with_reducible refine WL.block ?_ | with_reducible refine WL.scope ?_ | with_reducible refine WL.nilS ?_ | with_reducible refine WL.reS ?_ | with_reducible refine WL.exS ?_ | with_reducible refine WL.nilB ?_ | with_reducible refine WL.nilT ?_ | with_reducible refine WL.exit ?_ | with_reducible refine WL.ret ?_ | with_reducible refine WL.exT ?_ | with_reducible refine WL.exB ?_ | with_reducible refine WL.exN rfl ?_ | with_reducible refine WL.reT ?_ | with_reducible refine WL.reB ?_ | ((first | refine WL.reg rfl ?_ | refine WL.regT mixed rfl ?_); (conv => { arg 3; simp [prep, prep1] }); (repeat (first | (refine runK_go ?_ ?_; (focus (simp; done)); (conv => { arg 4; simp (disch := omega) [if_pos, if_neg] }); (first | refine contK_val ?_ | (refine contK_go ?_; (conv => { arg 5; simp })))) | (refine skip_val rfl ?_ ?_; (focus (simp; done))) | (refine runK_go ?_ ?_; (focus (simp; done)); (conv => { arg 4; simp (disch := omega) [if_pos, if_neg] }); refine callU true rfl rfl ⟨_, Tryz.func119, rfl, rfl⟩ ?_; (conv => { arg 6; simp (disch := omega) [if_pos, if_neg] }); refine callC_go (z1) rfl ?_; (conv => { arg 5; simp (disch := omega) [if_pos, if_neg] })))); with_reducible refine runK_nil ?_; (first | refine ⟨rfl, ?_⟩ | refine ⟨by simp [quietB], by simp [quietU], ?_⟩ | skip)) | (refine WL.cond ?_; (conv => { arg 1; simp (disch := omega) [if_pos, if_neg] }); (first | with_reducible refine condT ?_ | with_reducible refine condF ?_ | with_reducible refine condPT (by omega) ?_ | with_reducible refine condPF (by omega) ?_))))
    refine ⟨[], ?_⟩
    simp (disch := omega) [if_pos, if_neg]
  · rw [show decS (val a) = decB (val a) by simp [decS, h]]
    exact digitsTextN a hw hl h
end Go.Proofs.YthgldcflcmlgpaaGreatDoorE
end

section
/- whole.Text, figure.Text, row.Text. -/
-- x3
set_option linter.unusedVariables false
set_option linter.unusedSimpArgs false
namespace Go.Proofs.YthgldcflcmlgpaaGreatDoorE
open Go.RowKit
set_option maxRecDepth 100000
attribute [local simp] List.getElem?_cons_zero List.getElem?_cons_succ List.getElem?_nil wrap_i64 stOf st0 effF effC evalV evalL upd_n updI_n pv_t pv_c pv_g pv_f ofConst binV binI lenV foldV mx2 mn2 unV convV extractV idxV indexV fieldAddrV fieldV partV sliceV boundsV loadL live storeE appendE srcV litE makeE IntKind.bits copyE boxE allocE flatParts flatCs flatC allParts cellsOf solid leafB fillL frzL buildV fillP placeS eqFl eqCell St.eff St.put wrs callE renP renA renC renI nid newL renB noEff endK endR resA resL resV expP expA expC expN expL expBs expB idx thenQ blockQ wantK wrap_u32 wrap_u64_in beqI bneI w32 wl fdiv_pos Int.natCast_inj

theorem decB_size (n : Nat) {k : Nat} (h : n < 10 ^ k) : (decB n).size ≤ k := by
  rw [← dec_of n h]
  show (Lib.trimLeftB (bd (digs n k)) 48).toArray.size ≤ k
  rw [List.size_toArray]
  refine Nat.le_trans (List.dropWhile_sublist _).length_le ?_
  simp [bd, digs_len]
theorem decS_size {n k : Nat} (h : n < 4294967296 ^ k) : (decS n).size ≤ 10 * k + 1 := by
  unfold decS
  split
  · show 1 ≤ 10 * k + 1
    omega
  · refine Nat.le_trans (decB_size n (k := 10 * k) (Nat.lt_of_lt_of_le h ?_)) (by omega)
    rw [Nat.pow_mul]
    exact Nat.pow_le_pow_left (by decide) _
/-- A whole number as a text. -/
def decI (z : Int) : ByteArray := if z < 0 then ⟨#[45]⟩ ++ decS z.natAbs else decS z.natAbs
theorem decI_size {z : Int} {k : Nat} (h : z.natAbs < 4294967296 ^ k) : (decI z).size ≤ 10 * k + 2 := by
  unfold decI
  have h1 := decS_size h
  split
  · rw [ByteArray.size_append]
    have : (⟨#[45]⟩ : ByteArray).size = 1 := rfl
    omega
  · omega
/-- A fraction as a text. -/
def figS (q : Rat) : ByteArray := if q.den = 1 then decI q.num else decI q.num ++ (⟨#[47]⟩ ++ decS q.den)

theorem sgn_neg (z : Int) : (sgn z < 0) ↔ z < 0 := by
  unfold sgn
  split
  · omega
  · split <;> omega

theorem wholeText (neg : Bool) (l : List Nat) (hw : wf l) (hl : l.length ≤ 1000000) : CallOk Tryz.prog 139 [wh neg l] [] (.str (decI (zv neg l))) [] := by
  have c1 := digitsText l hw hl
  have c2 := wholeSign neg l hw (by omega)
  have hz := decS_size (val_lt hw)
  have hs1 : (⟨#[45]⟩ : ByteArray).size = 1 := rfl
  have hn := sgn_neg (zv neg l)
  have hd : decI (zv neg l) = if zv neg l < 0 then ⟨#[45]⟩ ++ decS (val l) else decS (val l) := by rw [decI, zv_abs]
  rw [hd]
  generalize decS (val l) = T at *
  generalize zv neg l = z at *
  generalize sgn z = y at *
  by_cases h : z < 0
  · have hy := hn.2 h
    rw [if_pos h]
    refine CallOk.of_wl Tryz.func139 rfl rfl rfl (Nat.le_of_ble_eq_true rfl) ?_
    (repeat (first | with_reducible refine WL.seq ?_ | with_reducible refine WL.skip ?_ | with_reducible refine WL.label ?_ | with_reducible refine WL.block ?_ | with_reducible refine WL.scope ?_ | with_reducible refine WL.nilS ?_ | with_reducible refine WL.reS ?_ | with_reducible refine WL.exS ?_ | with_reducible refine WL.nilB ?_ | with_reducible refine WL.nilT ?_ | with_reducible refine WL.exit ?_ | with_reducible refine WL.ret ?_ | with_reducible refine WL.exT ?_ | with_reducible refine WL.exB ?_ | with_reducible refine WL.exN rfl ?_ | with_reducible refine WL.reT ?_ | with_reducible refine WL.reB ?_ | ((first | refine WL.reg rfl ?_ | refine WL.regT mixed rfl ?_); (conv => { arg 3; simp [prep, prep1] }); (repeat (first | (refine runK_go ?_ ?_; (focus (simp; done)); (conv => { arg 4; simp (disch := omega) [if_pos, if_neg, wh, hy, binS] }); (first | refine contK_val ?_ | (refine contK_go ?_; (conv => { arg 5; simp })))) | (refine skip_val rfl ?_ ?_; (focus (simp; done))) | (refine runK_go ?_ ?_; (focus (simp; done)); (conv => { arg 4; simp (disch := omega) [if_pos, if_neg, wh, hy, binS] }); refine callU true rfl rfl ⟨_, Tryz.func141, rfl, rfl⟩ ?_; (conv => { arg 6; simp (disch := omega) [if_pos, if_neg, wh, hy, binS] }); refine callC_go (c1) rfl ?_; (conv => { arg 5; simp (disch := omega) [if_pos, if_neg, wh, hy, binS] })) | (refine runK_go ?_ ?_; (focus (simp; done)); (conv => { arg 4; simp (disch := omega) [if_pos, if_neg, wh, hy, binS] }); refine callU true rfl rfl ⟨_, Tryz.func80, rfl, rfl⟩ ?_; (conv => { arg 6; simp (disch := omega) [if_pos, if_neg, wh, hy, binS] }); refine callC_go (c2) rfl ?_; (conv => { arg 5; simp (disch := omega) [if_pos, if_neg, wh, hy, binS] })))); with_reducible refine runK_nil ?_; (first | refine ⟨rfl, ?_⟩ | refine ⟨by simp [quietB], by simp [quietU], ?_⟩ | skip)) | (refine WL.cond ?_; (conv => { arg 1; simp (disch := omega) [if_pos, if_neg, wh, hy, binS] }); (first | with_reducible refine condT ?_ | with_reducible refine condF ?_ | with_reducible refine condPT (by omega) ?_ | with_reducible refine condPF (by omega) ?_))))
    refine ⟨[], ?_⟩
    simp (disch := omega) [if_pos, if_neg]
  · have hy : ¬ y < 0 := fun h' => h (hn.1 h')
    rw [if_neg h]
    refine CallOk.of_wl Tryz.func139 rfl rfl rfl (Nat.le_of_ble_eq_true rfl) ?_
    (repeat (first | with_reducible refine WL.seq ?_ | with_reducible refine WL.skip ?_ | with_reducible refine WL.label ?_ | with_reducible refine WL.block ?_ | with_reducible refine WL.scope ?_ | with_reducible refine WL.nilS ?_ | with_reducible refine WL.reS ?_ | with_reducible refine WL.exS ?_ | with_reducible refine WL.nilB ?_ | with_reducible refine WL.nilT ?_ | with_reducible refine WL.exit ?_ | with_reducible refine WL.ret ?_ | with_reducible refine WL.exT ?_ | with_reducible refine WL.exB ?_ | with_reducible refine WL.exN rfl ?_ | with_reducible refine WL.reT ?_ | with_reducible refine WL.reB ?_ | ((first | refine WL.reg rfl ?_ | refine WL.regT mixed rfl ?_); (conv => { arg 3; simp [prep, prep1] }); (repeat (first | (refine runK_go ?_ ?_; (focus (simp; done)); (conv => { arg 4; simp (disch := omega) [if_pos, if_neg, wh, hy, binS] }); (first | refine contK_val ?_ | (refine contK_go ?_; (conv => { arg 5; simp })))) | (refine skip_val rfl ?_ ?_; (focus (simp; done))) | (refine runK_go ?_ ?_; (focus (simp; done)); (conv => { arg 4; simp (disch := omega) [if_pos, if_neg, wh, hy, binS] }); refine callU true rfl rfl ⟨_, Tryz.func141, rfl, rfl⟩ ?_; (conv => { arg 6; simp (disch := omega) [if_pos, if_neg, wh, hy, binS] }); refine callC_go (c1) rfl ?_; (conv => { arg 5; simp (disch := omega) [if_pos, if_neg, wh, hy, binS] })) | (refine runK_go ?_ ?_; (focus (simp; done)); (conv => { arg 4; simp (disch := omega) [if_pos, if_neg, wh, hy, binS] }); refine callU true rfl rfl ⟨_, Tryz.func80, rfl, rfl⟩ ?_; (conv => { arg 6; simp (disch := omega) [if_pos, if_neg, wh, hy, binS] }); refine callC_go (c2) rfl ?_; (conv => { arg 5; simp (disch := omega) [if_pos, if_neg, wh, hy, binS] })))); with_reducible refine runK_nil ?_; (first | refine ⟨rfl, ?_⟩ | refine ⟨by simp [quietB], by simp [quietU], ?_⟩ | skip)) | (refine WL.cond ?_; (conv => { arg 1; simp (disch := omega) [if_pos, if_neg, wh, hy, binS] }); (first | with_reducible refine condT ?_ | with_reducible refine condF ?_ | with_reducible refine condPT (by omega) ?_ | with_reducible refine condPF (by omega) ?_))))
    refine ⟨[], ?_⟩
    simp (disch := omega) [if_pos, if_neg]

theorem figureText (sa : Bool) (na da : List Nat) (h1 : wf na) (h2 : wf da) (l1 : na.length ≤ 1000000) (l2 : da.length ≤ 1000000) (hsz : szQ (qv sa na da) ≤ 1000000) :
    CallOk Tryz.prog 88 [fr sa na da] [] (.str (figS (qv sa na da))) [] := by
  have c1 := fracNorm sa na da h1 h2 (by omega) (by omega)
  generalize qv sa na da = q at *
  have hn1 : (nw q.num.natAbs).length ≤ 1000000 := Nat.le_trans (Nat.le_max_left _ _) hsz
  have hn2 : (nw q.den).length ≤ 1000000 := Nat.le_trans (Nat.le_max_right _ _) hsz
  have c2 := wholeText (decide (q.num < 0)) (nw q.num.natAbs) (wf_nw _) hn1
  have hzq : zv (decide (q.num < 0)) (nw q.num.natAbs) = q.num := by
    unfold zv zs
    rw [val_nw]
    by_cases h : q.num < 0
    · simp [h]; omega
    · simp [h]; omega
  rw [hzq] at c2
  have c3 := natOf 1 (by decide)
  have c4 := natCmp (nw q.den) (nw 1) (wf_nw _) (wf_nw _) (by omega) (by rw [nw_one]; decide)
  rw [val_nw, val_nw] at c4
  have c5 := digitsText (nw q.den) (wf_nw _) hn2
  rw [val_nw] at c5
  have z1 : (decI q.num).size ≤ 10000002 := Nat.le_trans (decI_size (k := (nw q.num.natAbs).length) (by have := val_lt (wf_nw q.num.natAbs); rwa [val_nw] at this)) (by omega)
  have z2 : (decS q.den).size ≤ 10000001 := Nat.le_trans (decS_size (k := (nw q.den).length) (by have := val_lt (wf_nw q.den); rwa [val_nw] at this)) (by omega)
  have hs1 : (⟨#[47]⟩ : ByteArray).size = 1 := rfl
  have hs2 : ((⟨#[47]⟩ : ByteArray) ++ decS q.den).size ≤ 10000002 := by rw [ByteArray.size_append, hs1]; omega
  have hcmp : (cmpI q.den 1 = 0) ↔ q.den = 1 := by unfold cmpI; split <;> (try split) <;> omega
  unfold figS
  generalize decI q.num = T at *
  generalize decS q.den = U at *
  by_cases h : q.den = 1
  · have hy := hcmp.2 h
    rw [if_pos h]
    rw [hy] at c4
    refine CallOk.of_wl Tryz.func88 rfl rfl rfl (Nat.le_of_ble_eq_true rfl) ?_
    (repeat (first | with_reducible refine WL.seq ?_ | with_reducible refine WL.skip ?_ | with_reducible refine WL.label ?_ | with_reducible refine WL.block ?_ | with_reducible refine WL.scope ?_ | with_reducible refine WL.nilS ?_ | with_reducible refine WL.reS ?_ | with_reducible refine WL.exS ?_ | with_reducible refine WL.nilB ?_ | with_reducible refine WL.nilT ?_ | with_reducible refine WL.exit ?_ | with_reducible refine WL.ret ?_ | with_reducible refine WL.exT ?_ | with_reducible refine WL.exB ?_ | with_reducible refine WL.exN rfl ?_ | with_reducible refine WL.reT ?_ | with_reducible refine WL.reB ?_ | ((first | refine WL.reg rfl ?_ | refine WL.regT mixed rfl ?_); (conv => { arg 3; simp [prep, prep1] }); (repeat (first | (refine runK_go ?_ ?_; (focus (simp; done)); (conv => { arg 4; simp (disch := omega) [if_pos, if_neg, fr, frQ, wh] }); (first | refine contK_val ?_ | (refine contK_go ?_; (conv => { arg 5; simp })))) | (refine skip_val rfl ?_ ?_; (focus (simp; done))) | (refine runK_go ?_ ?_; (focus (simp; done)); (conv => { arg 4; simp (disch := omega) [if_pos, if_neg, fr, frQ, wh] }); refine callU true rfl rfl ⟨_, Tryz.func78, rfl, rfl⟩ ?_; (conv => { arg 6; simp (disch := omega) [if_pos, if_neg, fr, frQ, wh] }); refine callC_go (c1) rfl ?_; (conv => { arg 5; simp (disch := omega) [if_pos, if_neg, fr, frQ, wh] })) | (refine runK_go ?_ ?_; (focus (simp; done)); (conv => { arg 4; simp (disch := omega) [if_pos, if_neg, fr, frQ, wh] }); refine callU true rfl rfl ⟨_, Tryz.func139, rfl, rfl⟩ ?_; (conv => { arg 6; simp (disch := omega) [if_pos, if_neg, fr, frQ, wh] }); refine callC_go (c2) rfl ?_; (conv => { arg 5; simp (disch := omega) [if_pos, if_neg, fr, frQ, wh] })) | (refine runK_go ?_ ?_; (focus (simp; done)); (conv => { arg 4; simp (disch := omega) [if_pos, if_neg, fr, frQ, wh] }); refine callU true rfl rfl ⟨_, Tryz.func106, rfl, rfl⟩ ?_; (conv => { arg 6; simp (disch := omega) [if_pos, if_neg, fr, frQ, wh] }); refine callC_go (c3) rfl ?_; (conv => { arg 5; simp (disch := omega) [if_pos, if_neg, fr, frQ, wh] })) | (refine runK_go ?_ ?_; (focus (simp; done)); (conv => { arg 4; simp (disch := omega) [if_pos, if_neg, fr, frQ, wh] }); refine callU true rfl rfl ⟨_, Tryz.func140, rfl, rfl⟩ ?_; (conv => { arg 6; simp (disch := omega) [if_pos, if_neg, fr, frQ, wh] }); refine callC_go (c4) rfl ?_; (conv => { arg 5; simp (disch := omega) [if_pos, if_neg, fr, frQ, wh] })))); with_reducible refine runK_nil ?_; (first | refine ⟨rfl, ?_⟩ | refine ⟨by simp [quietB], by simp [quietU], ?_⟩ | skip)) | (refine WL.cond ?_; (conv => { arg 1; simp (disch := omega) [if_pos, if_neg, fr, frQ, wh] }); (first | with_reducible refine condT ?_ | with_reducible refine condF ?_ | with_reducible refine condPT (by omega) ?_ | with_reducible refine condPF (by omega) ?_))))
    refine ⟨[], ?_⟩
    simp (disch := omega) [if_pos, if_neg]
  · have hy : ¬ cmpI q.den 1 = 0 := fun h' => h (hcmp.1 h')
    rw [if_neg h]
    generalize cmpI q.den 1 = y at *
    refine CallOk.of_wl Tryz.func88 rfl rfl rfl (Nat.le_of_ble_eq_true rfl) ?_
    (repeat (first | with_reducible refine WL.seq ?_ | with_reducible refine WL.skip ?_ | with_reducible refine WL.label ?_ | with_reducible refine WL.block ?_ | with_reducible refine WL.scope ?_ | with_reducible refine WL.nilS ?_ | with_reducible refine WL.reS ?_ | with_reducible refine WL.exS ?_ | with_reducible refine WL.nilB ?_ | with_reducible refine WL.nilT ?_ | with_reducible refine WL.exit ?_ | with_reducible refine WL.ret ?_ | with_reducible refine WL.exT ?_ | with_reducible refine WL.exB ?_ | with_reducible refine WL.exN rfl ?_ | with_reducible refine WL.reT ?_ | with_reducible refine WL.reB ?_ | ((first | refine WL.reg rfl ?_ | refine WL.regT mixed rfl ?_); (conv => { arg 3; simp [prep, prep1] }); (repeat (first | (refine runK_go ?_ ?_; (focus (simp; done)); (conv => { arg 4; simp (disch := omega) [if_pos, if_neg, fr, frQ, wh, hy, binS] }); (first | refine contK_val ?_ | (refine contK_go ?_; (conv => { arg 5; simp })))) | (refine skip_val rfl ?_ ?_; (focus (simp; done))) | (refine runK_go ?_ ?_; (focus (simp; done)); (conv => { arg 4; simp (disch := omega) [if_pos, if_neg, fr, frQ, wh, hy, binS] }); refine callU true rfl rfl ⟨_, Tryz.func78, rfl, rfl⟩ ?_; (conv => { arg 6; simp (disch := omega) [if_pos, if_neg, fr, frQ, wh, hy, binS] }); refine callC_go (c1) rfl ?_; (conv => { arg 5; simp (disch := omega) [if_pos, if_neg, fr, frQ, wh, hy, binS] })) | (refine runK_go ?_ ?_; (focus (simp; done)); (conv => { arg 4; simp (disch := omega) [if_pos, if_neg, fr, frQ, wh, hy, binS] }); refine callU true rfl rfl ⟨_, Tryz.func139, rfl, rfl⟩ ?_; (conv => { arg 6; simp (disch := omega) [if_pos, if_neg, fr, frQ, wh, hy, binS] }); refine callC_go (c2) rfl ?_; (conv => { arg 5; simp (disch := omega) [if_pos, if_neg, fr, frQ, wh, hy, binS] })) | (refine runK_go ?_ ?_; (focus (simp; done)); (conv => { arg 4; simp (disch := omega) [if_pos, if_neg, fr, frQ, wh, hy, binS] }); refine callU true rfl rfl ⟨_, Tryz.func106, rfl, rfl⟩ ?_; (conv => { arg 6; simp (disch := omega) [if_pos, if_neg, fr, frQ, wh, hy, binS] }); refine callC_go (c3) rfl ?_; (conv => { arg 5; simp (disch := omega) [if_pos, if_neg, fr, frQ, wh, hy, binS] })) | (refine runK_go ?_ ?_; (focus (simp; done)); (conv => { arg 4; simp (disch := omega) [if_pos, if_neg, fr, frQ, wh, hy, binS] }); refine callU true rfl rfl ⟨_, Tryz.func140, rfl, rfl⟩ ?_; (conv => { arg 6; simp (disch := omega) [if_pos, if_neg, fr, frQ, wh, hy, binS] }); refine callC_go (c4) rfl ?_; (conv => { arg 5; simp (disch := omega) [if_pos, if_neg, fr, frQ, wh, hy, binS] })) | (refine runK_go ?_ ?_; (focus (simp; done)); (conv => { arg 4; simp (disch := omega) [if_pos, if_neg, fr, frQ, wh, hy, binS] }); refine callU true rfl rfl ⟨_, Tryz.func141, rfl, rfl⟩ ?_; (conv => { arg 6; simp (disch := omega) [if_pos, if_neg, fr, frQ, wh, hy, binS] }); refine callC_go (c5) rfl ?_; (conv => { arg 5; simp (disch := omega) [if_pos, if_neg, fr, frQ, wh, hy, binS] })))); with_reducible refine runK_nil ?_; (first | refine ⟨rfl, ?_⟩ | refine ⟨by simp [quietB], by simp [quietU], ?_⟩ | skip)) | (refine WL.cond ?_; (conv => { arg 1; simp (disch := omega) [if_pos, if_neg, fr, frQ, wh, hy, binS] }); (first | with_reducible refine condT ?_ | with_reducible refine condF ?_ | with_reducible refine condPT (by omega) ?_ | with_reducible refine condPF (by omega) ?_))))
    refine ⟨[], ?_⟩
    simp (disch := omega) [if_pos, if_neg]
end Go.Proofs.YthgldcflcmlgpaaGreatDoorE
end

section
/- row.Text; the law's own example. -/
-- x3
set_option linter.unusedVariables false
set_option linter.unusedSimpArgs false
namespace Go.Proofs.YthgldcflcmlgpaaGreatDoorE
open Go.RowKit
set_option maxRecDepth 100000
attribute [local simp] List.getElem?_cons_zero List.getElem?_cons_succ List.getElem?_nil wrap_i64 stOf st0 effF effC evalV evalL upd_n updI_n pv_t pv_c pv_g pv_f ofConst binV binI lenV foldV mx2 mn2 unV convV extractV idxV indexV fieldAddrV fieldV partV sliceV boundsV loadL live storeE appendE srcV litE makeE IntKind.bits copyE boxE allocE flatParts flatCs flatC allParts cellsOf solid leafB fillL frzL buildV fillP placeS eqFl eqCell St.eff St.put wrs callE renP renA renC renI nid newL renB noEff endK endR resA resL resV expP expA expC expN expL expBs expB idx thenQ blockQ wantK wrap_u32 wrap_u64_in beqI bneI w32 wl fdiv_pos Int.natCast_inj

/-- A row as a text. -/
def rowS (l : List Rat) : ByteArray := ⟨(Lib.join (l.map fun q => (figS q).data.toList) [44]).toArray⟩
theorem figS_size {q : Rat} {k : Nat} (h : szQ q ≤ k) : (figS q).size ≤ 20 * k + 4 := by
  have hn1 : (nw q.num.natAbs).length ≤ k := Nat.le_trans (Nat.le_max_left _ _) h
  have hn2 : (nw q.den).length ≤ k := Nat.le_trans (Nat.le_max_right _ _) h
  have z1 := decI_size (z := q.num) (k := (nw q.num.natAbs).length) (by have := val_lt (wf_nw q.num.natAbs); rwa [val_nw] at this)
  have z2 := decS_size (n := q.den) (k := (nw q.den).length) (by have := val_lt (wf_nw q.den); rwa [val_nw] at this)
  have hs1 : (⟨#[47]⟩ : ByteArray).size = 1 := rfl
  unfold figS
  split
  · omega
  · rw [ByteArray.size_append, ByteArray.size_append, hs1]; omega

theorem join_len (c : UInt8) : ∀ (l : List (List UInt8)) (k : Nat), (∀ x ∈ l, x.length ≤ k) → (Lib.join l [c]).length ≤ l.length * (k + 1)
  | [], _, _ => by simp [Lib.join_nil]
  | [x], k, h => by rw [Lib.join_one]; have := h x (by simp); simp; omega
  | x :: y :: r, k, h => by
    have h1 := h x (by simp)
    have h2 := join_len c (y :: r) k fun z hz => h z (by simp [hz])
    have e : Lib.join (x :: y :: r) [c] = x ++ [c] ++ Lib.join (y :: r) [c] := by simp [Lib.join, List.intercalate]
    rw [e, List.length_append, List.length_append]
    simp only [List.length_cons, List.length_nil] at *
    rw [Nat.add_mul (r.length + 1) 1 (k + 1)]
    omega

def textC (l : List RF) : List PV := l.map fun x => PV.str (figS x.q)
theorem textC_len (l : List RF) : (textC l).length = l.length := by simp [textC]
theorem textC_succ (l : List RF) (i : Nat) (h : i < l.length) : textC (l.take (i + 1)) = textC (l.take i) ++ [PV.str (figS (l[i]'h).q)] := by
  rw [List.take_succ_eq_append_getElem h]; simp only [textC, List.map_append, List.map_cons, List.map_nil]
theorem rowText (l : List RF) (K : Nat) (hK : K ≤ 1000000) (ok : ∀ x ∈ l, x.ok K ∧ szQ x.q ≤ K) (hl : l.length ≤ 1000000) : CallOk Tryz.prog 35 [row l] [] (.str (rowS (l.map RF.q))) [] := by
  have hlen := rowC_len l
  refine CallOk.of_wl Tryz.func35 rfl rfl rfl (Nat.le_of_ble_eq_true rfl) ?_
  (repeat (first | with_reducible refine WL.seq ?_ | with_reducible refine WL.skip ?_ | with_reducible refine WL.label ?_ | with_reducible refine WL.block ?_ | with_reducible refine WL.scope ?_ | with_reducible refine WL.nilS ?_ | with_reducible refine WL.reS ?_ | with_reducible refine WL.exS ?_ | with_reducible refine WL.nilB ?_ | with_reducible refine WL.nilT ?_ | with_reducible refine WL.exit ?_ | with_reducible refine WL.ret ?_ | with_reducible refine WL.exT ?_ | with_reducible refine WL.exB ?_ | with_reducible refine WL.exN rfl ?_ | with_reducible refine WL.reT ?_ | with_reducible refine WL.reB ?_ | ((first | refine WL.reg rfl ?_ | refine WL.regT mixed rfl ?_); (conv => { arg 3; simp [prep, prep1] }); (repeat (first | (refine runK_go ?_ ?_; (focus (simp; done)); (conv => { arg 4; simp (disch := omega) [if_pos, if_neg, row] }); (first | refine contK_val ?_ | (refine contK_go ?_; (conv => { arg 5; simp })))) | (refine skip_val rfl ?_ ?_; (focus (simp; done))))); with_reducible refine runK_nil ?_; (first | refine ⟨rfl, ?_⟩ | refine ⟨by simp [quietB], by simp [quietU], ?_⟩ | skip)) | (refine WL.cond ?_; (conv => { arg 1; simp (disch := omega) [if_pos, if_neg, row] }); (first | with_reducible refine condT ?_ | with_reducible refine condF ?_ | with_reducible refine condPT (by omega) ?_ | with_reducible refine condPF (by omega) ?_))))
  refine WL.loop (fun m s => ∃ i : Nat, m = l.length - i ∧ i ≤ l.length ∧ s.frame 6 = row l ∧ s.frame 7 = .int .i64 l.length ∧ s.frame 8 = .int .i64 i ∧
    ((i = 0 ∧ s.frame 3 = .nilS) ∨ ∃ G v, s.frame 3 = .sl ⟨16, G, 0⟩ v 0 i 1 ∧ s.store ⟨16, G, 0⟩ = some ⟨v, true, true, textC (l.take i)⟩)) l.length ?_ ?_
  · exact ⟨0, by omega, by omega, by simp [row], by simp [row], by simp, .inl ⟨rfl, by simp⟩⟩
  rintro m ⟨f, σ, g⟩ ⟨i, rfl, hi, h6, h7, h8, h3⟩
  simp only at h6 h7 h8 h3
  by_cases hi' : i < l.length
  · have rx := rowC_at hi'
    have h3l : 3 ≤ (rowC l).length - i * 3 := by omega
    obtain ⟨ok1, ok2⟩ := ok (l[i]'hi') (by simp)
    have c1 := figureText (l[i]'hi').neg (l[i]'hi').n (l[i]'hi').d ok1.wn ok1.wd (by have := ok1.ln; omega) (by have := ok1.ld; omega) (by have := ok2; unfold RF.q at this; omega)
    have htk := textC_succ l i hi'
    rw [show qv (l[i]'hi').neg (l[i]'hi').n (l[i]'hi').d = (l[i]'hi').q from rfl] at c1
    generalize l[i]'hi' = x at *
    generalize figS x.q = T at *
    rcases h3 with ⟨rfl, h3⟩ | ⟨G, v, h3, hst⟩
    · have rx0 : (rowC l).take 3 = x.cells := by simpa using rx
      have h3l0 : 3 ≤ l.length * 3 := by omega
      (repeat (first | with_reducible refine WL.seq ?_ | with_reducible refine WL.skip ?_ | with_reducible refine WL.label ?_ | with_reducible refine WL.block ?_ | with_reducible refine WL.scope ?_ | with_reducible refine WL.nilS ?_ | with_reducible refine WL.reS ?_ | with_reducible refine WL.exS ?_ | with_reducible refine WL.nilB ?_ | with_reducible refine WL.nilT ?_ | with_reducible refine WL.exit ?_ | with_reducible refine WL.ret ?_ | with_reducible refine WL.exT ?_ | with_reducible refine WL.exB ?_ | with_reducible refine WL.exN rfl ?_ | with_reducible refine WL.reT ?_ | with_reducible refine WL.reB ?_ | ((first | refine WL.reg rfl ?_ | refine WL.regT mixed rfl ?_); (conv => { arg 3; simp [prep, prep1] }); (repeat (first | (refine runK_go ?_ ?_; (focus (simp; done)); (conv => { arg 4; simp (disch := omega) [if_pos, if_neg, h6, h7, h8, row, hi', hlen, rx0, h3l0, RF.pv, RF.cells, fr, h3] }); (first | refine contK_val ?_ | (refine contK_go ?_; (conv => { arg 5; simp })))) | (refine skip_val rfl ?_ ?_; (focus (simp; done))) | (refine runK_go ?_ ?_; (focus (simp; done)); (conv => { arg 4; simp (disch := omega) [if_pos, if_neg, h6, h7, h8, row, hi', hlen, rx0, h3l0, RF.pv, RF.cells, fr, h3] }); refine callU true rfl rfl ⟨_, Tryz.func88, rfl, rfl⟩ ?_; (conv => { arg 6; simp (disch := omega) [if_pos, if_neg, h6, h7, h8, row, hi', hlen, rx0, h3l0, RF.pv, RF.cells, fr, h3] }); refine callC_go (c1) rfl ?_; (conv => { arg 5; simp (disch := omega) [if_pos, if_neg, h6, h7, h8, row, hi', hlen, rx0, h3l0, RF.pv, RF.cells, fr, h3] })))); with_reducible refine runK_nil ?_; (first | refine ⟨rfl, ?_⟩ | refine ⟨by simp [quietB], by simp [quietU], ?_⟩ | skip)) | (refine WL.cond ?_; (conv => { arg 1; simp (disch := omega) [if_pos, if_neg, h6, h7, h8, row, hi', hlen, rx0, h3l0, RF.pv, RF.cells, fr, h3] }); (first | with_reducible refine condT ?_ | with_reducible refine condF ?_ | with_reducible refine condPT (by omega) ?_ | with_reducible refine condPF (by omega) ?_))))
      exact ⟨l.length - 1, by omega, 1, rfl, by omega, by simp [h6, row], by simp [h7], by simp, .inr ⟨g 16, 0, by simp, by
        have htk0 : textC (l.take 0) = [] := by simp [textC]
        rw [htk0] at htk
        simp at htk
        simp [htk]⟩⟩
    · have hL : (textC (l.take i)).length = i := by rw [textC_len, List.length_take]; omega
      generalize textC (l.take i) = L at *
      have hLt : L.take i = L := List.take_of_length_le (by omega)
      (repeat (first | with_reducible refine WL.seq ?_ | with_reducible refine WL.skip ?_ | with_reducible refine WL.label ?_ | with_reducible refine WL.block ?_ | with_reducible refine WL.scope ?_ | with_reducible refine WL.nilS ?_ | with_reducible refine WL.reS ?_ | with_reducible refine WL.exS ?_ | with_reducible refine WL.nilB ?_ | with_reducible refine WL.nilT ?_ | with_reducible refine WL.exit ?_ | with_reducible refine WL.ret ?_ | with_reducible refine WL.exT ?_ | with_reducible refine WL.exB ?_ | with_reducible refine WL.exN rfl ?_ | with_reducible refine WL.reT ?_ | with_reducible refine WL.reB ?_ | ((first | refine WL.reg rfl ?_ | refine WL.regT mixed rfl ?_); (conv => { arg 3; simp [prep, prep1] }); (repeat (first | (refine runK_go ?_ ?_; (focus (simp; done)); (conv => { arg 4; simp (disch := omega) [if_pos, if_neg, h6, h7, h8, row, hi', hlen, rx, h3l, RF.pv, RF.cells, fr, h3, hst, hL, hLt] }); (first | refine contK_val ?_ | (refine contK_go ?_; (conv => { arg 5; simp })))) | (refine skip_val rfl ?_ ?_; (focus (simp; done))) | (refine runK_go ?_ ?_; (focus (simp; done)); (conv => { arg 4; simp (disch := omega) [if_pos, if_neg, h6, h7, h8, row, hi', hlen, rx, h3l, RF.pv, RF.cells, fr, h3, hst, hL, hLt] }); refine callU true rfl rfl ⟨_, Tryz.func88, rfl, rfl⟩ ?_; (conv => { arg 6; simp (disch := omega) [if_pos, if_neg, h6, h7, h8, row, hi', hlen, rx, h3l, RF.pv, RF.cells, fr, h3, hst, hL, hLt] }); refine callC_go (c1) rfl ?_; (conv => { arg 5; simp (disch := omega) [if_pos, if_neg, h6, h7, h8, row, hi', hlen, rx, h3l, RF.pv, RF.cells, fr, h3, hst, hL, hLt] })))); with_reducible refine runK_nil ?_; (first | refine ⟨rfl, ?_⟩ | refine ⟨by simp [quietB], by simp [quietU], ?_⟩ | skip)) | (refine WL.cond ?_; (conv => { arg 1; simp (disch := omega) [if_pos, if_neg, h6, h7, h8, row, hi', hlen, rx, h3l, RF.pv, RF.cells, fr, h3, hst, hL, hLt] }); (first | with_reducible refine condT ?_ | with_reducible refine condF ?_ | with_reducible refine condPT (by omega) ?_ | with_reducible refine condPF (by omega) ?_))))
      exact ⟨l.length - (i + 1), by omega, i + 1, rfl, by omega, by simp [h6, row], by simp [h7], by simp, .inr ⟨G, v + 1, by simp, by simp [htk]⟩⟩
  · have hia : i = l.length := by omega
    subst hia
    rcases h3 with ⟨h0', h3⟩ | ⟨G, v, h3, hst⟩
    · have : l = [] := List.eq_nil_of_length_eq_zero h0'
      subst this
      have c2 := strJoin [] ⟨#[44]⟩ (by simp) (by simp [Lib.join_nil])
      rw [show (⟨(Lib.join (([] : List ByteArray).map (·.data.toList)) (ByteArray.mk #[44]).data.toList).toArray⟩ : ByteArray) = rowS (([] : List RF).map RF.q) from rfl] at c2
      simp only [List.map_nil, List.length_nil] at c2
      have h7' : f 7 = .int .i64 0 := by simpa using h7
      have h8' : f 8 = .int .i64 0 := by simpa using h8
      (repeat (first | with_reducible refine WL.seq ?_ | with_reducible refine WL.skip ?_ | with_reducible refine WL.label ?_ | with_reducible refine WL.block ?_ | with_reducible refine WL.scope ?_ | with_reducible refine WL.nilS ?_ | with_reducible refine WL.reS ?_ | with_reducible refine WL.exS ?_ | with_reducible refine WL.nilB ?_ | with_reducible refine WL.nilT ?_ | with_reducible refine WL.exit ?_ | with_reducible refine WL.ret ?_ | with_reducible refine WL.exT ?_ | with_reducible refine WL.exB ?_ | with_reducible refine WL.exN rfl ?_ | with_reducible refine WL.reT ?_ | with_reducible refine WL.reB ?_ | ((first | refine WL.reg rfl ?_ | refine WL.regT mixed rfl ?_); (conv => { arg 3; simp [prep, prep1] }); (repeat (first | (refine runK_go ?_ ?_; (focus (simp; done)); (conv => { arg 4; simp (disch := omega) [if_pos, if_neg, h6, h7', h8', row, h3] }); (first | refine contK_val ?_ | (refine contK_go ?_; (conv => { arg 5; simp })))) | (refine skip_val rfl ?_ ?_; (focus (simp; done))) | (refine runK_go ?_ ?_; (focus (simp; done)); (conv => { arg 4; simp (disch := omega) [if_pos, if_neg, h6, h7', h8', row, h3] }); refine callU true rfl rfl ⟨_, Tryz.func89, rfl, rfl⟩ ?_; (conv => { arg 6; simp (disch := omega) [if_pos, if_neg, h6, h7', h8', row, h3] }); refine callC_go (c2) rfl ?_; (conv => { arg 5; simp (disch := omega) [if_pos, if_neg, h6, h7', h8', row, h3] })))); with_reducible refine runK_nil ?_; (first | refine ⟨rfl, ?_⟩ | refine ⟨by simp [quietB], by simp [quietU], ?_⟩ | skip)) | (refine WL.cond ?_; (conv => { arg 1; simp (disch := omega) [if_pos, if_neg, h6, h7', h8', row, h3] }); (first | with_reducible refine condT ?_ | with_reducible refine condF ?_ | with_reducible refine condPT (by omega) ?_ | with_reducible refine condPF (by omega) ?_))))
      refine ⟨[], ?_⟩
      simp (disch := omega) [if_pos, if_neg]
    · rw [List.take_length] at hst
      have c2 := strJoin (l.map fun x => figS x.q) ⟨#[44]⟩ (by simp; omega) (by
        refine Nat.le_trans (join_len 44 _ (20 * K + 4) ?_) ?_
        · intro y hy
          simp only [List.map_map, List.mem_map, Function.comp] at hy
          obtain ⟨x, hx, rfl⟩ := hy
          have := figS_size (ok x hx).2
          rw [← ByteArray.size_data, ← Array.length_toList] at this
          exact this
        · simp only [List.length_map]
          calc l.length * (20 * K + 4 + 1) ≤ 1000000 * (20 * 1000000 + 4 + 1) := Nat.mul_le_mul hl (by omega)
            _ ≤ 140737488355328 := by decide)
      have hres : (⟨(Lib.join ((l.map fun x => figS x.q).map (·.data.toList)) (ByteArray.mk #[44]).data.toList).toArray⟩ : ByteArray) = rowS (l.map RF.q) := by
        simp [rowS, Function.comp_def]
      rw [hres] at c2
      have hm : (l.map fun x => figS x.q).map PV.str = textC l := by simp [textC]
      have hL := textC_len l
      have hL2 : (l.map fun x => figS x.q).length = l.length := by simp
      rw [hL2, hm] at c2
      generalize textC l = L at *
      have hLt : L.take l.length = L := List.take_of_length_le (by omega)
      (repeat (first | with_reducible refine WL.seq ?_ | with_reducible refine WL.skip ?_ | with_reducible refine WL.label ?_ | with_reducible refine WL.block ?_ | with_reducible refine WL.scope ?_ | with_reducible refine WL.nilS ?_ | with_reducible refine WL.reS ?_ | with_reducible refine WL.exS ?_ | with_reducible refine WL.nilB ?_ | with_reducible refine WL.nilT ?_ | with_reducible refine WL.exit ?_ | with_reducible refine WL.ret ?_ | with_reducible refine WL.exT ?_ | with_reducible refine WL.exB ?_ | with_reducible refine WL.exN rfl ?_ | with_reducible refine WL.reT ?_ | with_reducible refine WL.reB ?_ | ((first | refine WL.reg rfl ?_ | refine WL.regT mixed rfl ?_); (conv => { arg 3; simp [prep, prep1] }); (repeat (first | (refine runK_go ?_ ?_; (focus (simp; done)); (conv => { arg 4; simp (disch := omega) [if_pos, if_neg, h6, h7, h8, row, h3, hst, hL, hLt] }); (first | refine contK_val ?_ | (refine contK_go ?_; (conv => { arg 5; simp })))) | (refine skip_val rfl ?_ ?_; (focus (simp; done))) | (refine runK_go ?_ ?_; (focus (simp; done)); (conv => { arg 4; simp (disch := omega) [if_pos, if_neg, h6, h7, h8, row, h3, hst, hL, hLt] }); refine callU true rfl rfl ⟨_, Tryz.func89, rfl, rfl⟩ ?_; (conv => { arg 6; simp (disch := omega) [if_pos, if_neg, h6, h7, h8, row, h3, hst, hL, hLt] }); refine callC_go (c2) rfl ?_; (conv => { arg 5; simp (disch := omega) [if_pos, if_neg, h6, h7, h8, row, h3, hst, hL, hLt] })))); with_reducible refine runK_nil ?_; (first | refine ⟨rfl, ?_⟩ | refine ⟨by simp [quietB], by simp [quietU], ?_⟩ | skip)) | (refine WL.cond ?_; (conv => { arg 1; simp (disch := omega) [if_pos, if_neg, h6, h7, h8, row, h3, hst, hL, hLt] }); (first | with_reducible refine condT ?_ | with_reducible refine condF ?_ | with_reducible refine condPT (by omega) ?_ | with_reducible refine condPF (by omega) ?_))))
      refine ⟨[], ?_⟩
      simp (disch := omega) [if_pos, if_neg]
end Go.Proofs.YthgldcflcmlgpaaGreatDoorE
end

section
/- The law's own example. -/
-- x3
set_option linter.unusedVariables false
set_option linter.unusedSimpArgs false
namespace Go.Proofs.YthgldcflcmlgpaaGreatDoorE
open Go.RowKit
set_option maxRecDepth 100000
attribute [local simp] List.getElem?_cons_zero List.getElem?_cons_succ List.getElem?_nil wrap_i64 stOf st0 effF effC evalV evalL upd_n updI_n pv_t pv_c pv_g pv_f ofConst binV binI lenV foldV mx2 mn2 unV convV extractV idxV indexV fieldAddrV fieldV partV sliceV boundsV loadL live storeE appendE srcV litE makeE IntKind.bits copyE boxE allocE flatParts flatCs flatC allParts cellsOf solid leafB fillL frzL buildV fillP placeS eqFl eqCell St.eff St.put wrs callE renP renA renC renI nid newL renB noEff endK endR resA resL resV expP expA expC expN expL expBs expB idx thenQ blockQ wantK wrap_u32 wrap_u64_in beqI bneI w32 wl fdiv_pos Int.natCast_inj

def wSpn : Spn := ⟨RF.of 0, RF.of 2, [RF.of 0], [RF.of 8], [RF.of 0], [RF.of 12]⟩
theorem wSpn_at : wSpn.atQ 1 = [1] := by
  simp only [Spn.atQ, Spn.x, wSpn, qs, List.map_cons, List.map_nil, RF.of_q]
  simp [mixQ, addRow, zeroQ, prodQ, Rat.div_def]
  grind
theorem wSpn_slope : wSpn.slopeQ 1 = [3] := by
  simp only [Spn.slopeQ, Spn.x, wSpn, qs, List.map_cons, List.map_nil, RF.of_q]
  simp [mixQ, addRow, zeroQ, prodQ, Rat.div_def]
  grind
theorem rowS_1 : rowS [1] = ⟨#[49]⟩ := by decide
theorem rowS_3 : rowS [3] = ⟨#[51]⟩ := by decide
theorem sz_int (n : Int) (h : n.natAbs < 4294967296) : szQ (n : Rat) ≤ 1 := szQ_int n h
theorem of_ok (n : Int) (h : n.natAbs < 4294967296) : (RF.of (n : Rat)).ok 65536 := RF.of_ok (Nat.le_trans (szQ_int n h) (by decide))
theorem wSpn_ok : wSpn.ok 65536 := by
  have o0 : (RF.of 0).ok 65536 := of_ok 0 (by decide)
  have o2 : (RF.of 2).ok 65536 := of_ok 2 (by decide)
  have o8 : (RF.of 8).ok 65536 := of_ok 8 (by decide)
  have o12 : (RF.of 12).ok 65536 := of_ok 12 (by decide)
  refine ⟨o0, o2, ?_, ?_, ?_, ?_⟩ <;> (intro x hx; simp [wSpn] at hx; subst hx; assumption)
theorem wSpn_right : wSpn.right = true := by
  simp only [Spn.right, wSpn, RF.of_q]
  decide

set_option maxHeartbeats 4000000 in
theorem worksOk : CallOk Tryz.prog 13 [] [] (.bool true) [] := by
  have c0 := fracOf 0 (by omega)
  have c1 := fracOf 1 (by omega)
  have c2 := fracOf 2 (by omega)
  have c8 := fracOf 8 (by omega)
  have c12 := fracOf 12 (by omega)
  have k1 := spanAt wSpn (RF.of 1) wSpn_right (of_ok 1 (by decide)) wSpn_ok
  have k2 := spanSlope wSpn (RF.of 1) wSpn_right (of_ok 1 (by decide)) wSpn_ok
  rw [RF.of_q, wSpn_at] at k1
  rw [RF.of_q, wSpn_slope] at k2
  have t1 := rowText [RF.of 1] 65536 (by decide) (by intro x hx; simp at hx; subst hx; exact ⟨of_ok 1 (by decide), by rw [RF.of_q]; exact Nat.le_trans (sz_int 1 (by decide)) (by decide)⟩) (by decide)
  have t3 := rowText [RF.of 3] 65536 (by decide) (by intro x hx; simp at hx; subst hx; exact ⟨of_ok 3 (by decide), by rw [RF.of_q]; exact Nat.le_trans (sz_int 3 (by decide)) (by decide)⟩) (by decide)
  simp only [List.map_cons, List.map_nil, RF.of_q, rowS_1, rowS_3] at t1 t3
  simp only [wSpn, rowQ, List.map_cons, List.map_nil] at k1 k2
  have c0 : CallOk _ _ _ _ (RF.of 0).pv _ := c0
  have c1 : CallOk _ _ _ _ (RF.of 1).pv _ := c1
  have c2 : CallOk _ _ _ _ (RF.of 2).pv _ := c2
  have c8 : CallOk _ _ _ _ (RF.of 8).pv _ := c8
  have c12 : CallOk _ _ _ _ (RF.of 12).pv _ := c12
  generalize RF.of 0 = r0 at *
  generalize RF.of 1 = r1 at *
  generalize RF.of 2 = r2 at *
  generalize RF.of 3 = r3 at *
  generalize RF.of 8 = r8 at *
  generalize RF.of 12 = r12 at *
  simp only [Spn.pv, Spn.cells, row, rowC, RF.pv, RF.cells, List.flatMap_cons, List.flatMap_nil, List.map_cons, List.map_nil, List.length_cons, List.length_nil, List.flatten_cons, List.flatten_nil, List.append_nil, List.cons_append, List.nil_append, Nat.zero_add] at *
  refine CallOk.of_wl Tryz.func13 rfl rfl rfl (Nat.le_of_ble_eq_true rfl) ?_
  (repeat (first | with_reducible refine WL.seq ?_ | with_reducible refine WL.skip ?_ | with_reducible refine WL.label ?_ | with_reducible refine WL.block ?_ | with_reducible refine WL.scope ?_ | with_reducible refine WL.nilS ?_ | with_reducible refine WL.reS ?_ | with_reducible refine WL.exS ?_ | with_reducible refine WL.nilB ?_ | with_reducible refine WL.nilT ?_ | with_reducible refine WL.exit ?_ | with_reducible refine WL.ret ?_ | with_reducible refine WL.exT ?_ | with_reducible refine WL.exB ?_ | with_reducible refine WL.exN rfl ?_ | with_reducible refine WL.reT ?_ | with_reducible refine WL.reB ?_ | ((first | refine WL.reg rfl ?_ | refine WL.regT mixed rfl ?_); (conv => { arg 3; simp [prep, prep1] }); (repeat (first | (refine runK_go ?_ ?_; (focus (simp; done)); (conv => { arg 4; simp (disch := omega) [if_pos, if_neg, -litE, litF1, binS] }); (first | refine contK_val ?_ | (refine contK_go ?_; (conv => { arg 5; simp })))) | (refine skip_val rfl ?_ ?_; (focus (simp; done))) | (refine runK_go ?_ ?_; (focus (simp; done)); (conv => { arg 4; simp (disch := omega) [if_pos, if_neg, -litE, litF1, binS] }); refine callU true rfl rfl ⟨_, Tryz.func60, rfl, rfl⟩ ?_; (conv => { arg 6; simp (disch := omega) [if_pos, if_neg, -litE, litF1, binS] }); refine callC_go (c0) rfl ?_; (conv => { arg 5; simp (disch := omega) [if_pos, if_neg, -litE, litF1, binS] })) | (refine runK_go ?_ ?_; (focus (simp; done)); (conv => { arg 4; simp (disch := omega) [if_pos, if_neg, -litE, litF1, binS] }); refine callU true rfl rfl ⟨_, Tryz.func60, rfl, rfl⟩ ?_; (conv => { arg 6; simp (disch := omega) [if_pos, if_neg, -litE, litF1, binS] }); refine callC_go (c1) rfl ?_; (conv => { arg 5; simp (disch := omega) [if_pos, if_neg, -litE, litF1, binS] })) | (refine runK_go ?_ ?_; (focus (simp; done)); (conv => { arg 4; simp (disch := omega) [if_pos, if_neg, -litE, litF1, binS] }); refine callU true rfl rfl ⟨_, Tryz.func60, rfl, rfl⟩ ?_; (conv => { arg 6; simp (disch := omega) [if_pos, if_neg, -litE, litF1, binS] }); refine callC_go (c2) rfl ?_; (conv => { arg 5; simp (disch := omega) [if_pos, if_neg, -litE, litF1, binS] })) | (refine runK_go ?_ ?_; (focus (simp; done)); (conv => { arg 4; simp (disch := omega) [if_pos, if_neg, -litE, litF1, binS] }); refine callU true rfl rfl ⟨_, Tryz.func60, rfl, rfl⟩ ?_; (conv => { arg 6; simp (disch := omega) [if_pos, if_neg, -litE, litF1, binS] }); refine callC_go (c8) rfl ?_; (conv => { arg 5; simp (disch := omega) [if_pos, if_neg, -litE, litF1, binS] })) | (refine runK_go ?_ ?_; (focus (simp; done)); (conv => { arg 4; simp (disch := omega) [if_pos, if_neg, -litE, litF1, binS] }); refine callU true rfl rfl ⟨_, Tryz.func60, rfl, rfl⟩ ?_; (conv => { arg 6; simp (disch := omega) [if_pos, if_neg, -litE, litF1, binS] }); refine callC_go (c12) rfl ?_; (conv => { arg 5; simp (disch := omega) [if_pos, if_neg, -litE, litF1, binS] })) | (refine runK_go ?_ ?_; (focus (simp; done)); (conv => { arg 4; simp (disch := omega) [if_pos, if_neg, -litE, litF1, binS] }); refine callU true rfl rfl ⟨_, Tryz.func14, rfl, rfl⟩ ?_; (conv => { arg 6; simp (disch := omega) [if_pos, if_neg, -litE, litF1, binS] }); refine callC_go (k1) rfl ?_; (conv => { arg 5; simp (disch := omega) [if_pos, if_neg, -litE, litF1, binS] })) | (refine runK_go ?_ ?_; (focus (simp; done)); (conv => { arg 4; simp (disch := omega) [if_pos, if_neg, -litE, litF1, binS] }); refine callU true rfl rfl ⟨_, Tryz.func17, rfl, rfl⟩ ?_; (conv => { arg 6; simp (disch := omega) [if_pos, if_neg, -litE, litF1, binS] }); refine callC_go (k2) rfl ?_; (conv => { arg 5; simp (disch := omega) [if_pos, if_neg, -litE, litF1, binS] })) | (refine runK_go ?_ ?_; (focus (simp; done)); (conv => { arg 4; simp (disch := omega) [if_pos, if_neg, -litE, litF1, binS] }); refine callU true rfl rfl ⟨_, Tryz.func35, rfl, rfl⟩ ?_; (conv => { arg 6; simp (disch := omega) [if_pos, if_neg, -litE, litF1, binS] }); refine callC_go (t1) rfl ?_; (conv => { arg 5; simp (disch := omega) [if_pos, if_neg, -litE, litF1, binS] })) | (refine runK_go ?_ ?_; (focus (simp; done)); (conv => { arg 4; simp (disch := omega) [if_pos, if_neg, -litE, litF1, binS] }); refine callU true rfl rfl ⟨_, Tryz.func35, rfl, rfl⟩ ?_; (conv => { arg 6; simp (disch := omega) [if_pos, if_neg, -litE, litF1, binS] }); refine callC_go (t3) rfl ?_; (conv => { arg 5; simp (disch := omega) [if_pos, if_neg, -litE, litF1, binS] })))); with_reducible refine runK_nil ?_; (first | refine ⟨rfl, ?_⟩ | refine ⟨by simp [quietB], by simp [quietU], ?_⟩ | skip)) | (refine WL.cond ?_; (conv => { arg 1; simp (disch := omega) [if_pos, if_neg, -litE, litF1, binS] }); (first | with_reducible refine condT ?_ | with_reducible refine condF ?_ | with_reducible refine condPT (by omega) ?_ | with_reducible refine condPF (by omega) ?_))))
  refine ⟨[], ?_⟩
  simp (disch := omega) [if_pos, if_neg]
end Go.Proofs.YthgldcflcmlgpaaGreatDoorE
end
