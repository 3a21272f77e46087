import Derived.Test.YthgldcflcmlgpaaGreatDoorM0
import Derived.Test.YthgldcflcmlgpaaGreatDoorM1
import Derived.Test.YthgldcflcmlgpaaGreatDoorM2

section
/- Common divisors of naturals. -/
-- x3
set_option linter.unusedVariables false
set_option linter.unusedSimpArgs false
namespace Go.Proofs.YthgldcflcmlgpaaGreatDoorE
open Go.RowKit
set_option maxRecDepth 100000
attribute [local simp] List.getElem?_cons_zero List.getElem?_cons_succ List.getElem?_nil wrap_i64 stOf st0 effF effC evalV evalL upd_n updI_n pv_t pv_c pv_g pv_f ofConst binV binI lenV foldV mx2 mn2 unV convV extractV idxV indexV fieldAddrV fieldV partV sliceV boundsV loadL live storeE appendE srcV litE makeE IntKind.bits copyE boxE allocE flatParts flatCs flatC allParts cellsOf solid leafB fillL frzL buildV fillP placeS eqFl eqCell St.eff St.put wrs callE renP renA renC renI nid newL renB noEff endK endR resA resL resV expP expA expC expN expL expBs expB idx thenQ blockQ wantK wrap_u32 wrap_u64_in beqI bneI w32 wl fdiv_pos Int.natCast_inj

theorem natSmall (l : List Nat) (hw : wf l) (hl : l.length ≤ 1099511627776) (hv : val l < 18446744073709551616) : CallOk Tryz.prog 190 [wl l] [] (.tup [.int .u64 (val l), .bool true]) [] := by
  have c1 := natTrim l hl
  rw [trim_nw hw] at c1
  have hA := wf_nw (val l)
  have hAl : (nw (val l)).length ≤ 2 := nw_len_le (by simpa using hv)
  have hAv := val_nw (val l)
  generalize nw (val l) = A at *
  refine CallOk.of_wl Tryz.func190 rfl rfl rfl (Nat.le_of_ble_eq_true rfl) ?_
  (repeat (first | with_reducible refine WL.seq ?_ | with_reducible refine WL.skip ?_ | with_reducible refine WL.label ?_ | with_reducible refine WL.block ?_ | with_reducible refine WL.scope ?_ | with_reducible refine WL.nilS ?_ | with_reducible refine WL.reS ?_ | with_reducible refine WL.exS ?_ | with_reducible refine WL.nilB ?_ | with_reducible refine WL.nilT ?_ | with_reducible refine WL.exit ?_ | with_reducible refine WL.ret ?_ | with_reducible refine WL.exT ?_ | with_reducible refine WL.exB ?_ | with_reducible refine WL.exN rfl ?_ | with_reducible refine WL.reT ?_ | with_reducible refine WL.reB ?_ | ((first | refine WL.reg rfl ?_ | refine WL.regT mixed rfl ?_); (conv => { arg 3; simp [prep, prep1] }); (repeat (first | (refine runK_go ?_ ?_; (focus (simp; done)); (conv => { arg 4; simp (disch := omega) [if_pos, if_neg] }); (first | refine contK_val ?_ | (refine contK_go ?_; (conv => { arg 5; simp })))) | (refine skip_val rfl ?_ ?_; (focus (simp; done))) | (refine runK_go ?_ ?_; (focus (simp; done)); (conv => { arg 4; simp (disch := omega) [if_pos, if_neg] }); refine callU true rfl rfl ⟨_, Tryz.func154, rfl, rfl⟩ ?_; (conv => { arg 6; simp (disch := omega) [if_pos, if_neg] }); refine callC_go (c1) rfl ?_; (conv => { arg 5; simp (disch := omega) [if_pos, if_neg] })))); with_reducible refine runK_nil ?_; (first | refine ⟨rfl, ?_⟩ | refine ⟨by simp [quietB], by simp [quietU], ?_⟩ | skip)) | (refine WL.cond ?_; (conv => { arg 1; simp (disch := omega) [if_pos, if_neg] }); (first | with_reducible refine condT ?_ | with_reducible refine condF ?_ | with_reducible refine condPT (by omega) ?_ | with_reducible refine condPF (by omega) ?_))))
  refine WL.loop (fun m s => ∃ i : Nat, m = A.length - i ∧ i ≤ A.length ∧ s.frame 4 = .int .u64 (val (A.take i)) ∧ s.frame 12 = wl A ∧ s.frame 13 = .int .i64 A.length ∧ s.frame 14 = .int .i64 i) A.length ?_ ?_
  · exact ⟨0, by omega, by omega, by simp [val], by simp, by simp, by simp⟩
  rintro m ⟨f, σ, g⟩ ⟨i, rfl, hi, h4, h12, h13, h14⟩
  simp only at h4 h12 h13 h14
  by_cases hi' : i < A.length
  · have hx := wf_at hA i
    have rA := ws_at hi'
    have hvt := val_take_succ hi'
    have hlt := val_lt (wf_take hA i)
    rw [List.length_take, Nat.min_eq_left (by omega)] at hlt
    have hlt2 := val_lt (wf_take hA (i + 1))
    rw [List.length_take, Nat.min_eq_left (by omega)] at hlt2
    generalize A.getD i 0 = x at *
    have hi2 : i = 0 ∨ i = 1 := by omega
    rcases hi2 with rfl | rfl
    · simp only [Nat.pow_zero, Nat.one_mul, Nat.zero_add, Nat.pow_one] at hlt hlt2 hvt
      generalize val (A.take 0) = n at *
      generalize hn2 : val (A.take (0 + 1)) = n2 at *
      have hn3 : val (A.take 1) = n2 := hn2
      have hor := or_u64' (x := (x : Int)) (y := (n : Int)) x n 0 (by simp) rfl (by omega) (by omega)
      have hn : ((2 ^ 0 * x + n : Nat) : Int) = (n2 : Int) := by omega
      rw [hn] at hor
      (repeat (first | with_reducible refine WL.seq ?_ | with_reducible refine WL.skip ?_ | with_reducible refine WL.label ?_ | with_reducible refine WL.block ?_ | with_reducible refine WL.scope ?_ | with_reducible refine WL.nilS ?_ | with_reducible refine WL.reS ?_ | with_reducible refine WL.exS ?_ | with_reducible refine WL.nilB ?_ | with_reducible refine WL.nilT ?_ | with_reducible refine WL.exit ?_ | with_reducible refine WL.ret ?_ | with_reducible refine WL.exT ?_ | with_reducible refine WL.exB ?_ | with_reducible refine WL.exN rfl ?_ | with_reducible refine WL.reT ?_ | with_reducible refine WL.reB ?_ | ((first | refine WL.reg rfl ?_ | refine WL.regT mixed rfl ?_); (conv => { arg 3; simp [prep, prep1] }); (repeat (first | (refine runK_go ?_ ?_; (focus (simp; done)); (conv => { arg 4; simp (disch := omega) [if_pos, if_neg, h4, h12, h13, h14, hi', rA, hor] }); (first | refine contK_val ?_ | (refine contK_go ?_; (conv => { arg 5; simp })))) | (refine skip_val rfl ?_ ?_; (focus (simp; done))))); with_reducible refine runK_nil ?_; (first | refine ⟨rfl, ?_⟩ | refine ⟨by simp [quietB], by simp [quietU], ?_⟩ | skip)) | (refine WL.cond ?_; (conv => { arg 1; simp (disch := omega) [if_pos, if_neg, h4, h12, h13, h14, hi', rA, hor] }); (first | with_reducible refine condT ?_ | with_reducible refine condF ?_ | with_reducible refine condPT (by omega) ?_ | with_reducible refine condPF (by omega) ?_))))
      exact ⟨A.length - 1, by omega, 1, by omega, by omega, by simp [hn3], by simp [h12], by simp [h13], by simp⟩
    · simp only [Nat.pow_one] at hlt hvt
      generalize val (A.take 1) = n at *
      generalize hn2 : val (A.take (1 + 1)) = n2 at *
      have hn3 : val (A.take 2) = n2 := hn2
      have hor := or_u64' (x := (x : Int) * 4294967296) (y := (n : Int)) x n 32 (by omega) rfl (by omega) (by omega)
      have hn : ((2 ^ 32 * x + n : Nat) : Int) = (n2 : Int) := by omega
      rw [hn] at hor
      (repeat (first | with_reducible refine WL.seq ?_ | with_reducible refine WL.skip ?_ | with_reducible refine WL.label ?_ | with_reducible refine WL.block ?_ | with_reducible refine WL.scope ?_ | with_reducible refine WL.nilS ?_ | with_reducible refine WL.reS ?_ | with_reducible refine WL.exS ?_ | with_reducible refine WL.nilB ?_ | with_reducible refine WL.nilT ?_ | with_reducible refine WL.exit ?_ | with_reducible refine WL.ret ?_ | with_reducible refine WL.exT ?_ | with_reducible refine WL.exB ?_ | with_reducible refine WL.exN rfl ?_ | with_reducible refine WL.reT ?_ | with_reducible refine WL.reB ?_ | ((first | refine WL.reg rfl ?_ | refine WL.regT mixed rfl ?_); (conv => { arg 3; simp [prep, prep1] }); (repeat (first | (refine runK_go ?_ ?_; (focus (simp; done)); (conv => { arg 4; simp (disch := omega) [if_pos, if_neg, h4, h12, h13, h14, hi', rA, hor] }); (first | refine contK_val ?_ | (refine contK_go ?_; (conv => { arg 5; simp })))) | (refine skip_val rfl ?_ ?_; (focus (simp; done))))); with_reducible refine runK_nil ?_; (first | refine ⟨rfl, ?_⟩ | refine ⟨by simp [quietB], by simp [quietU], ?_⟩ | skip)) | (refine WL.cond ?_; (conv => { arg 1; simp (disch := omega) [if_pos, if_neg, h4, h12, h13, h14, hi', rA, hor] }); (first | with_reducible refine condT ?_ | with_reducible refine condF ?_ | with_reducible refine condPT (by omega) ?_ | with_reducible refine condPF (by omega) ?_))))
      exact ⟨A.length - 2, by omega, 2, by omega, by omega, by simp [hn3], by simp [h12], by simp [h13], by simp⟩
  · have hia : i = A.length := by omega
    subst hia
    rw [List.take_length, hAv] at h4
    (repeat (first | with_reducible refine WL.seq ?_ | with_reducible refine WL.skip ?_ | with_reducible refine WL.label ?_ | with_reducible refine WL.block ?_ | with_reducible refine WL.scope ?_ | with_reducible refine WL.nilS ?_ | with_reducible refine WL.reS ?_ | with_reducible refine WL.exS ?_ | with_reducible refine WL.nilB ?_ | with_reducible refine WL.nilT ?_ | with_reducible refine WL.exit ?_ | with_reducible refine WL.ret ?_ | with_reducible refine WL.exT ?_ | with_reducible refine WL.exB ?_ | with_reducible refine WL.exN rfl ?_ | with_reducible refine WL.reT ?_ | with_reducible refine WL.reB ?_ | ((first | refine WL.reg rfl ?_ | refine WL.regT mixed rfl ?_); (conv => { arg 3; simp [prep, prep1] }); (repeat (first | (refine runK_go ?_ ?_; (focus (simp; done)); (conv => { arg 4; simp (disch := omega) [if_pos, if_neg, h4, h12, h13, h14] }); (first | refine contK_val ?_ | (refine contK_go ?_; (conv => { arg 5; simp })))) | (refine skip_val rfl ?_ ?_; (focus (simp; done))))); with_reducible refine runK_nil ?_; (first | refine ⟨rfl, ?_⟩ | refine ⟨by simp [quietB], by simp [quietU], ?_⟩ | skip)) | (refine WL.cond ?_; (conv => { arg 1; simp (disch := omega) [if_pos, if_neg, h4, h12, h13, h14] }); (first | with_reducible refine condT ?_ | with_reducible refine condF ?_ | with_reducible refine condPT (by omega) ?_ | with_reducible refine condPF (by omega) ?_))))
    refine ⟨[], ?_⟩
    simp (disch := omega) [if_pos, if_neg]

theorem commonSmall (x y : Nat) (hx : x < 18446744073709551616) (hy : y < 18446744073709551616) : CallOk Tryz.prog 191 [.int .u64 x, .int .u64 y] [] (.int .u64 (Nat.gcd x y)) [] := by
  refine CallOk.of_wl Tryz.func191 rfl rfl rfl (Nat.le_of_ble_eq_true rfl) ?_
  (repeat (first | with_reducible refine WL.seq ?_ | with_reducible refine WL.skip ?_ | with_reducible refine WL.label ?_ | with_reducible refine WL.block ?_ | with_reducible refine WL.scope ?_ | with_reducible refine WL.nilS ?_ | with_reducible refine WL.reS ?_ | with_reducible refine WL.exS ?_ | with_reducible refine WL.nilB ?_ | with_reducible refine WL.nilT ?_ | with_reducible refine WL.exit ?_ | with_reducible refine WL.ret ?_ | with_reducible refine WL.exT ?_ | with_reducible refine WL.exB ?_ | with_reducible refine WL.exN rfl ?_ | with_reducible refine WL.reT ?_ | with_reducible refine WL.reB ?_ | ((first | refine WL.reg rfl ?_ | refine WL.regT mixed rfl ?_); (conv => { arg 3; simp [prep, prep1] }); (repeat (first | (refine runK_go ?_ ?_; (focus (simp; done)); (conv => { arg 4; simp (disch := omega) [if_pos, if_neg] }); (first | refine contK_val ?_ | (refine contK_go ?_; (conv => { arg 5; simp })))) | (refine skip_val rfl ?_ ?_; (focus (simp; done))))); with_reducible refine runK_nil ?_; (first | refine ⟨rfl, ?_⟩ | refine ⟨by simp [quietB], by simp [quietU], ?_⟩ | skip)) | (refine WL.cond ?_; (conv => { arg 1; simp (disch := omega) [if_pos, if_neg] }); (first | with_reducible refine condT ?_ | with_reducible refine condF ?_ | with_reducible refine condPT (by omega) ?_ | with_reducible refine condPF (by omega) ?_))))
  refine WL.loop (fun m s => ∃ u v : Nat, m = v ∧ s.frame 0 = .int .u64 u ∧ s.frame 1 = .int .u64 v ∧ u < 18446744073709551616 ∧ v < 18446744073709551616 ∧ Nat.gcd u v = Nat.gcd x y) y ?_ ?_
  · exact ⟨x, y, rfl, by simp, by simp, hx, hy, rfl⟩
  rintro m ⟨f, σ, g⟩ ⟨u, v, rfl, h0, h1, hu, hv, hg⟩
  simp only at h0 h1
  by_cases hm : m = 0
  · subst hm
    rw [Nat.gcd_zero_right] at hg
    (repeat (first | with_reducible refine WL.seq ?_ | with_reducible refine WL.skip ?_ | with_reducible refine WL.label ?_ | with_reducible refine WL.block ?_ | with_reducible refine WL.scope ?_ | with_reducible refine WL.nilS ?_ | with_reducible refine WL.reS ?_ | with_reducible refine WL.exS ?_ | with_reducible refine WL.nilB ?_ | with_reducible refine WL.nilT ?_ | with_reducible refine WL.exit ?_ | with_reducible refine WL.ret ?_ | with_reducible refine WL.exT ?_ | with_reducible refine WL.exB ?_ | with_reducible refine WL.exN rfl ?_ | with_reducible refine WL.reT ?_ | with_reducible refine WL.reB ?_ | ((first | refine WL.reg rfl ?_ | refine WL.regT mixed rfl ?_); (conv => { arg 3; simp [prep, prep1] }); (repeat (first | (refine runK_go ?_ ?_; (focus (simp; done)); (conv => { arg 4; simp (disch := omega) [if_pos, if_neg, h0, h1] }); (first | refine contK_val ?_ | (refine contK_go ?_; (conv => { arg 5; simp })))) | (refine skip_val rfl ?_ ?_; (focus (simp; done))))); with_reducible refine runK_nil ?_; (first | refine ⟨rfl, ?_⟩ | refine ⟨by simp [quietB], by simp [quietU], ?_⟩ | skip)) | (refine WL.cond ?_; (conv => { arg 1; simp (disch := omega) [if_pos, if_neg, h0, h1] }); (first | with_reducible refine condT ?_ | with_reducible refine condF ?_ | with_reducible refine condPT (by omega) ?_ | with_reducible refine condPF (by omega) ?_))))
    refine ⟨[], ?_⟩
    simp (disch := omega) [if_pos, if_neg, hg]
  · have hlt : u % m < m := Nat.mod_lt _ (by omega)
    have e : (u : Int).tmod (m : Int) = ((u % m : Nat) : Int) := rfl
    rw [Nat.gcd_comm, Nat.gcd_rec, Nat.gcd_comm] at hg
    generalize u % m = r at *
    (repeat (first | with_reducible refine WL.seq ?_ | with_reducible refine WL.skip ?_ | with_reducible refine WL.label ?_ | with_reducible refine WL.block ?_ | with_reducible refine WL.scope ?_ | with_reducible refine WL.nilS ?_ | with_reducible refine WL.reS ?_ | with_reducible refine WL.exS ?_ | with_reducible refine WL.nilB ?_ | with_reducible refine WL.nilT ?_ | with_reducible refine WL.exit ?_ | with_reducible refine WL.ret ?_ | with_reducible refine WL.exT ?_ | with_reducible refine WL.exB ?_ | with_reducible refine WL.exN rfl ?_ | with_reducible refine WL.reT ?_ | with_reducible refine WL.reB ?_ | ((first | refine WL.reg rfl ?_ | refine WL.regT mixed rfl ?_); (conv => { arg 3; simp [prep, prep1] }); (repeat (first | (refine runK_go ?_ ?_; (focus (simp; done)); (conv => { arg 4; simp (disch := omega) [if_pos, if_neg, h0, h1, hm, e] }); (first | refine contK_val ?_ | (refine contK_go ?_; (conv => { arg 5; simp })))) | (refine skip_val rfl ?_ ?_; (focus (simp; done))))); with_reducible refine runK_nil ?_; (first | refine ⟨rfl, ?_⟩ | refine ⟨by simp [quietB], by simp [quietU], ?_⟩ | skip)) | (refine WL.cond ?_; (conv => { arg 1; simp (disch := omega) [if_pos, if_neg, h0, h1, hm, e] }); (first | with_reducible refine condT ?_ | with_reducible refine condF ?_ | with_reducible refine condPT (by omega) ?_ | with_reducible refine condPF (by omega) ?_))))
    exact ⟨r, hlt, m, r, rfl, by simp, by simp, hv, by omega, hg⟩

theorem commonGcd (a b : List Nat) (ha : wf a) (hb : wf b) (hla : a.length ≤ 274877906944) (hlb : b.length ≤ 274877906944) : CallOk Tryz.prog 160 [wl a, wl b] [] (wl (nw (Nat.gcd (val a) (val b)))) [] := by
  have c1 := natNorm a (by omega)
  have c2 := natNorm b (by omega)
  rw [trim_nw ha] at c1
  rw [trim_nw hb] at c2
  have hl1 := nw_norm_len ha
  have hl2 := nw_norm_len hb
  generalize val a = x at *
  generalize val b = y at *
  refine CallOk.of_wl Tryz.func160 rfl rfl rfl (Nat.le_of_ble_eq_true rfl) ?_
  (repeat (first | with_reducible refine WL.seq ?_ | with_reducible refine WL.skip ?_ | with_reducible refine WL.label ?_ | with_reducible refine WL.block ?_ | with_reducible refine WL.scope ?_ | with_reducible refine WL.nilS ?_ | with_reducible refine WL.reS ?_ | with_reducible refine WL.exS ?_ | with_reducible refine WL.nilB ?_ | with_reducible refine WL.nilT ?_ | with_reducible refine WL.exit ?_ | with_reducible refine WL.ret ?_ | with_reducible refine WL.exT ?_ | with_reducible refine WL.exB ?_ | with_reducible refine WL.exN rfl ?_ | with_reducible refine WL.reT ?_ | with_reducible refine WL.reB ?_ | ((first | refine WL.reg rfl ?_ | refine WL.regT mixed rfl ?_); (conv => { arg 3; simp [prep, prep1] }); (repeat (first | (refine runK_go ?_ ?_; (focus (simp; done)); (conv => { arg 4; simp (disch := omega) [if_pos, if_neg] }); (first | refine contK_val ?_ | (refine contK_go ?_; (conv => { arg 5; simp })))) | (refine skip_val rfl ?_ ?_; (focus (simp; done))) | (refine runK_go ?_ ?_; (focus (simp; done)); (conv => { arg 4; simp (disch := omega) [if_pos, if_neg] }); refine callU true rfl rfl ⟨_, Tryz.func126, rfl, rfl⟩ ?_; (conv => { arg 6; simp (disch := omega) [if_pos, if_neg] }); refine callC_go (c1) rfl ?_; (conv => { arg 5; simp (disch := omega) [if_pos, if_neg] })) | (refine runK_go ?_ ?_; (focus (simp; done)); (conv => { arg 4; simp (disch := omega) [if_pos, if_neg] }); refine callU true rfl rfl ⟨_, Tryz.func126, rfl, rfl⟩ ?_; (conv => { arg 6; simp (disch := omega) [if_pos, if_neg] }); refine callC_go (c2) rfl ?_; (conv => { arg 5; simp (disch := omega) [if_pos, if_neg] })))); with_reducible refine runK_nil ?_; (first | refine ⟨rfl, ?_⟩ | refine ⟨by simp [quietB], by simp [quietU], ?_⟩ | skip)) | (refine WL.cond ?_; (conv => { arg 1; simp (disch := omega) [if_pos, if_neg] }); (first | with_reducible refine condT ?_ | with_reducible refine condF ?_ | with_reducible refine condPT (by omega) ?_ | with_reducible refine condPF (by omega) ?_))))
  refine WL.loop (fun m s => ∃ u v : Nat, m = v ∧ s.frame 0 = wl (nw u) ∧ s.frame 1 = wl (nw v) ∧ (nw u).length ≤ 274877906944 ∧ (nw v).length ≤ 274877906944 ∧ Nat.gcd u v = Nat.gcd x y) y ?_ ?_
  · exact ⟨x, y, rfl, by simp, by simp, by omega, by omega, rfl⟩
  rintro m ⟨f, σ, g⟩ ⟨u, v, rfl, h0, h1, hu, hv, hg⟩
  simp only at h0 h1
  by_cases hm : 2 < (nw m).length
  · have hm0 : 0 < m := by
      rcases Nat.eq_zero_or_pos m with rfl | h
      · rw [nw_zero] at hm; simp at hm
      · exact h
    have c3 := quotDiv (nw u) (nw m) (wf_nw _) (wf_nw _) hu hv (by rw [val_nw]; exact hm0)
    rw [val_nw, val_nw] at c3
    have hlt : u % m < m := Nat.mod_lt _ hm0
    have hl3 : (nw (u % m)).length ≤ (nw m).length := nw_len_mono (by omega)
    rw [Nat.gcd_comm, Nat.gcd_rec, Nat.gcd_comm] at hg
    generalize u % m = r at *
    (repeat (first | with_reducible refine WL.seq ?_ | with_reducible refine WL.skip ?_ | with_reducible refine WL.label ?_ | with_reducible refine WL.block ?_ | with_reducible refine WL.scope ?_ | with_reducible refine WL.nilS ?_ | with_reducible refine WL.reS ?_ | with_reducible refine WL.exS ?_ | with_reducible refine WL.nilB ?_ | with_reducible refine WL.nilT ?_ | with_reducible refine WL.exit ?_ | with_reducible refine WL.ret ?_ | with_reducible refine WL.exT ?_ | with_reducible refine WL.exB ?_ | with_reducible refine WL.exN rfl ?_ | with_reducible refine WL.reT ?_ | with_reducible refine WL.reB ?_ | ((first | refine WL.reg rfl ?_ | refine WL.regT mixed rfl ?_); (conv => { arg 3; simp [prep, prep1] }); (repeat (first | (refine runK_go ?_ ?_; (focus (simp; done)); (conv => { arg 4; simp (disch := omega) [if_pos, if_neg, h0, h1, hm] }); (first | refine contK_val ?_ | (refine contK_go ?_; (conv => { arg 5; simp })))) | (refine skip_val rfl ?_ ?_; (focus (simp; done))) | (refine runK_go ?_ ?_; (focus (simp; done)); (conv => { arg 4; simp (disch := omega) [if_pos, if_neg, h0, h1, hm] }); refine callU true rfl rfl ⟨_, Tryz.func162, rfl, rfl⟩ ?_; (conv => { arg 6; simp (disch := omega) [if_pos, if_neg, h0, h1, hm] }); refine callC_go (c3) rfl ?_; (conv => { arg 5; simp (disch := omega) [if_pos, if_neg, h0, h1, hm] })))); with_reducible refine runK_nil ?_; (first | refine ⟨rfl, ?_⟩ | refine ⟨by simp [quietB], by simp [quietU], ?_⟩ | skip)) | (refine WL.cond ?_; (conv => { arg 1; simp (disch := omega) [if_pos, if_neg, h0, h1, hm] }); (first | with_reducible refine condT ?_ | with_reducible refine condF ?_ | with_reducible refine condPT (by omega) ?_ | with_reducible refine condPF (by omega) ?_))))
    exact ⟨r, hlt, m, r, rfl, by simp, by simp, hv, by omega, hg⟩
  · by_cases hz : m = 0
    · subst hz
      rw [Nat.gcd_zero_right] at hg
      rw [nw_zero] at h1
      (repeat (first | with_reducible refine WL.seq ?_ | with_reducible refine WL.skip ?_ | with_reducible refine WL.label ?_ | with_reducible refine WL.block ?_ | with_reducible refine WL.scope ?_ | with_reducible refine WL.nilS ?_ | with_reducible refine WL.reS ?_ | with_reducible refine WL.exS ?_ | with_reducible refine WL.nilB ?_ | with_reducible refine WL.nilT ?_ | with_reducible refine WL.exit ?_ | with_reducible refine WL.ret ?_ | with_reducible refine WL.exT ?_ | with_reducible refine WL.exB ?_ | with_reducible refine WL.exN rfl ?_ | with_reducible refine WL.reT ?_ | with_reducible refine WL.reB ?_ | ((first | refine WL.reg rfl ?_ | refine WL.regT mixed rfl ?_); (conv => { arg 3; simp [prep, prep1] }); (repeat (first | (refine runK_go ?_ ?_; (focus (simp; done)); (conv => { arg 4; simp (disch := omega) [if_pos, if_neg, h0, h1] }); (first | refine contK_val ?_ | (refine contK_go ?_; (conv => { arg 5; simp })))) | (refine skip_val rfl ?_ ?_; (focus (simp; done))))); with_reducible refine runK_nil ?_; (first | refine ⟨rfl, ?_⟩ | refine ⟨by simp [quietB], by simp [quietU], ?_⟩ | skip)) | (refine WL.cond ?_; (conv => { arg 1; simp (disch := omega) [if_pos, if_neg, h0, h1] }); (first | with_reducible refine condT ?_ | with_reducible refine condF ?_ | with_reducible refine condPT (by omega) ?_ | with_reducible refine condPF (by omega) ?_))))
      refine ⟨[], ?_⟩
      simp (disch := omega) [if_pos, if_neg, hg]
    · have hne : ¬ (nw m).length = 0 := fun h => hz (nw_nil h)
      have hm64 : m < 18446744073709551616 := by
        have := val_lt (wf_nw m)
        rw [val_nw] at this
        exact Nat.lt_of_lt_of_le this (Nat.le_trans (Nat.pow_le_pow_right (by decide) (show (nw m).length ≤ 2 by omega)) (by decide))
      have c3 := quotDiv (nw u) (nw m) (wf_nw _) (wf_nw _) hu hv (by rw [val_nw]; omega)
      rw [val_nw, val_nw] at c3
      have hlt : u % m < m := Nat.mod_lt _ (by omega)
      have c4 := natSmall (nw m) (wf_nw _) (by omega) (by rw [val_nw]; exact hm64)
      have hl3 : (nw (u % m)).length ≤ (nw m).length := nw_len_mono (by omega)
      have c5 := natSmall (nw (u % m)) (wf_nw _) (by omega) (by rw [val_nw]; omega)
      rw [val_nw] at c4 c5
      have c6 := commonSmall m (u % m) hm64 (by omega)
      rw [Nat.gcd_comm, Nat.gcd_rec, Nat.gcd_comm] at hg
      rw [hg] at c6
      have hgl : Nat.gcd x y ≤ m := by rw [← hg]; exact Nat.gcd_le_left _ (by omega)
      have c7 := natOf (Nat.gcd x y) (by omega)
      generalize u % m = r at *
      generalize Nat.gcd x y = gg at *
      (repeat (first | with_reducible refine WL.seq ?_ | with_reducible refine WL.skip ?_ | with_reducible refine WL.label ?_ | with_reducible refine WL.block ?_ | with_reducible refine WL.scope ?_ | with_reducible refine WL.nilS ?_ | with_reducible refine WL.reS ?_ | with_reducible refine WL.exS ?_ | with_reducible refine WL.nilB ?_ | with_reducible refine WL.nilT ?_ | with_reducible refine WL.exit ?_ | with_reducible refine WL.ret ?_ | with_reducible refine WL.exT ?_ | with_reducible refine WL.exB ?_ | with_reducible refine WL.exN rfl ?_ | with_reducible refine WL.reT ?_ | with_reducible refine WL.reB ?_ | ((first | refine WL.reg rfl ?_ | refine WL.regT mixed rfl ?_); (conv => { arg 3; simp [prep, prep1] }); (repeat (first | (refine runK_go ?_ ?_; (focus (simp; done)); (conv => { arg 4; simp (disch := omega) [if_pos, if_neg, h0, h1, hm, hne] }); (first | refine contK_val ?_ | (refine contK_go ?_; (conv => { arg 5; simp })))) | (refine skip_val rfl ?_ ?_; (focus (simp; done))) | (refine runK_go ?_ ?_; (focus (simp; done)); (conv => { arg 4; simp (disch := omega) [if_pos, if_neg, h0, h1, hm, hne] }); refine callU true rfl rfl ⟨_, Tryz.func162, rfl, rfl⟩ ?_; (conv => { arg 6; simp (disch := omega) [if_pos, if_neg, h0, h1, hm, hne] }); refine callC_go (c3) rfl ?_; (conv => { arg 5; simp (disch := omega) [if_pos, if_neg, h0, h1, hm, hne] })) | (refine runK_go ?_ ?_; (focus (simp; done)); (conv => { arg 4; simp (disch := omega) [if_pos, if_neg, h0, h1, hm, hne] }); refine callU true rfl rfl ⟨_, Tryz.func190, rfl, rfl⟩ ?_; (conv => { arg 6; simp (disch := omega) [if_pos, if_neg, h0, h1, hm, hne] }); refine callC_go (c4) rfl ?_; (conv => { arg 5; simp (disch := omega) [if_pos, if_neg, h0, h1, hm, hne] })) | (refine runK_go ?_ ?_; (focus (simp; done)); (conv => { arg 4; simp (disch := omega) [if_pos, if_neg, h0, h1, hm, hne] }); refine callU true rfl rfl ⟨_, Tryz.func190, rfl, rfl⟩ ?_; (conv => { arg 6; simp (disch := omega) [if_pos, if_neg, h0, h1, hm, hne] }); refine callC_go (c5) rfl ?_; (conv => { arg 5; simp (disch := omega) [if_pos, if_neg, h0, h1, hm, hne] })) | (refine runK_go ?_ ?_; (focus (simp; done)); (conv => { arg 4; simp (disch := omega) [if_pos, if_neg, h0, h1, hm, hne] }); refine callU true rfl rfl ⟨_, Tryz.func191, rfl, rfl⟩ ?_; (conv => { arg 6; simp (disch := omega) [if_pos, if_neg, h0, h1, hm, hne] }); refine callC_go (c6) rfl ?_; (conv => { arg 5; simp (disch := omega) [if_pos, if_neg, h0, h1, hm, hne] })) | (refine runK_go ?_ ?_; (focus (simp; done)); (conv => { arg 4; simp (disch := omega) [if_pos, if_neg, h0, h1, hm, hne] }); refine callU true rfl rfl ⟨_, Tryz.func106, rfl, rfl⟩ ?_; (conv => { arg 6; simp (disch := omega) [if_pos, if_neg, h0, h1, hm, hne] }); refine callC_go (c7) rfl ?_; (conv => { arg 5; simp (disch := omega) [if_pos, if_neg, h0, h1, hm, hne] })))); with_reducible refine runK_nil ?_; (first | refine ⟨rfl, ?_⟩ | refine ⟨by simp [quietB], by simp [quietU], ?_⟩ | skip)) | (refine WL.cond ?_; (conv => { arg 1; simp (disch := omega) [if_pos, if_neg, h0, h1, hm, hne] }); (first | with_reducible refine condT ?_ | with_reducible refine condF ?_ | with_reducible refine condPT (by omega) ?_ | with_reducible refine condPF (by omega) ?_))))
      refine ⟨[], ?_⟩
      simp (disch := omega) [if_pos, if_neg]
end Go.Proofs.YthgldcflcmlgpaaGreatDoorE
end

section
/- Two naturals divided by their common divisor. -/
-- x3
set_option linter.unusedVariables false
set_option linter.unusedSimpArgs false
namespace Go.Proofs.YthgldcflcmlgpaaGreatDoorE
open Go.RowKit
set_option maxRecDepth 100000
attribute [local simp] List.getElem?_cons_zero List.getElem?_cons_succ List.getElem?_nil wrap_i64 stOf st0 effF effC evalV evalL upd_n updI_n pv_t pv_c pv_g pv_f ofConst binV binI lenV foldV mx2 mn2 unV convV extractV idxV indexV fieldAddrV fieldV partV sliceV boundsV loadL live storeE appendE srcV litE makeE IntKind.bits copyE boxE allocE flatParts flatCs flatC allParts cellsOf solid leafB fillL frzL buildV fillP placeS eqFl eqCell St.eff St.put wrs callE renP renA renC renI nid newL renB noEff endK endR resA resL resV expP expA expC expN expL expBs expB idx thenQ blockQ wantK wrap_u32 wrap_u64_in beqI bneI w32 wl fdiv_pos Int.natCast_inj

theorem nw_small {n : Nat} (h0 : n ≠ 0) (h : n < 4294967296) : nw n = [n] := by
  rw [nw_pos h0, Nat.mod_eq_of_lt h, Nat.div_eq_of_lt h, nw_zero]
theorem nw_one : nw 1 = [1] := nw_small (by decide) (by decide)
theorem nw_len_one {n : Nat} (h : (nw n).length = 1) : n ≠ 0 ∧ n < 4294967296 := by
  have h0 : n ≠ 0 := fun e => by subst e; rw [nw_zero] at h; simp at h
  refine ⟨h0, ?_⟩
  have := val_lt (wf_nw n)
  rw [val_nw, h] at this
  simpa using this

theorem commonOne (n : Nat) (hl : (nw n).length ≤ 1099511627776) : CallOk Tryz.prog 161 [wl (nw n)] [] (.bool (decide (n = 1))) [] := by
  by_cases h : (nw n).length = 1
  · obtain ⟨h0, h1⟩ := nw_len_one h
    rw [nw_small h0 h1]
    refine CallOk.of_wl Tryz.func161 rfl rfl rfl (Nat.le_of_ble_eq_true rfl) ?_
    (repeat (first | with_reducible refine WL.seq ?_ | with_reducible refine WL.skip ?_ | with_reducible refine WL.label ?_ | with_reducible refine WL.block ?_ | with_reducible refine WL.scope ?_ | with_reducible refine WL.nilS ?_ | with_reducible refine WL.reS ?_ | with_reducible refine WL.exS ?_ | with_reducible refine WL.nilB ?_ | with_reducible refine WL.nilT ?_ | with_reducible refine WL.exit ?_ | with_reducible refine WL.ret ?_ | with_reducible refine WL.exT ?_ | with_reducible refine WL.exB ?_ | with_reducible refine WL.exN rfl ?_ | with_reducible refine WL.reT ?_ | with_reducible refine WL.reB ?_ | ((first | refine WL.reg rfl ?_ | refine WL.regT mixed rfl ?_); (conv => { arg 3; simp [prep, prep1] }); (repeat (first | (refine runK_go ?_ ?_; (focus (simp; done)); (conv => { arg 4; simp (disch := omega) [if_pos, if_neg, ws] }); (first | refine contK_val ?_ | (refine contK_go ?_; (conv => { arg 5; simp })))) | (refine skip_val rfl ?_ ?_; (focus (simp; done))))); with_reducible refine runK_nil ?_; (first | refine ⟨rfl, ?_⟩ | refine ⟨by simp [quietB], by simp [quietU], ?_⟩ | skip)) | (refine WL.cond ?_; (conv => { arg 1; simp (disch := omega) [if_pos, if_neg, ws] }); (first | with_reducible refine condT ?_ | with_reducible refine condF ?_ | with_reducible refine condPT (by omega) ?_ | with_reducible refine condPF (by omega) ?_))))
    refine ⟨[], ?_⟩
    simp (disch := omega) [if_pos, if_neg]
    omega
  · have hn : ¬ n = 1 := fun e => by subst e; rw [nw_one] at h; simp at h
    have hI : ¬ (((nw n).length : Nat) : Int) = 1 := by omega
    generalize nw n = l at *
    refine CallOk.of_wl Tryz.func161 rfl rfl rfl (Nat.le_of_ble_eq_true rfl) ?_
    (repeat (first | with_reducible refine WL.seq ?_ | with_reducible refine WL.skip ?_ | with_reducible refine WL.label ?_ | with_reducible refine WL.block ?_ | with_reducible refine WL.scope ?_ | with_reducible refine WL.nilS ?_ | with_reducible refine WL.reS ?_ | with_reducible refine WL.exS ?_ | with_reducible refine WL.nilB ?_ | with_reducible refine WL.nilT ?_ | with_reducible refine WL.exit ?_ | with_reducible refine WL.ret ?_ | with_reducible refine WL.exT ?_ | with_reducible refine WL.exB ?_ | with_reducible refine WL.exN rfl ?_ | with_reducible refine WL.reT ?_ | with_reducible refine WL.reB ?_ | ((first | refine WL.reg rfl ?_ | refine WL.regT mixed rfl ?_); (conv => { arg 3; simp [prep, prep1] }); (repeat (first | (refine runK_go ?_ ?_; (focus (simp; done)); (conv => { arg 4; simp (disch := omega) [if_pos, if_neg, h, hI] }); (first | refine contK_val ?_ | (refine contK_go ?_; (conv => { arg 5; simp })))) | (refine skip_val rfl ?_ ?_; (focus (simp; done))))); with_reducible refine runK_nil ?_; (first | refine ⟨rfl, ?_⟩ | refine ⟨by simp [quietB], by simp [quietU], ?_⟩ | skip)) | (refine WL.cond ?_; (conv => { arg 1; simp (disch := omega) [if_pos, if_neg, h, hI] }); (first | with_reducible refine condT ?_ | with_reducible refine condF ?_ | with_reducible refine condPT (by omega) ?_ | with_reducible refine condPF (by omega) ?_))))
    refine ⟨[], ?_⟩
    simp (disch := omega) [if_pos, if_neg, hn]

theorem commonCancel (a b : List Nat) (ha : wf a) (hb : wf b) (hla : a.length ≤ 274877906944) (hlb : b.length ≤ 274877906944) (h0 : 0 < val b) :
    CallOk Tryz.prog 120 [wl a, wl b] [] (.tup [wl (nw (val a / Nat.gcd (val a) (val b))), wl (nw (val b / Nat.gcd (val a) (val b)))]) [] := by
  have c1 := commonGcd a b ha hb hla hlb
  have hg0 : 0 < Nat.gcd (val a) (val b) := Nat.gcd_pos_of_pos_right _ h0
  have hgl : Nat.gcd (val a) (val b) ≤ val b := Nat.gcd_le_right _ h0
  have hl1 : (nw (Nat.gcd (val a) (val b))).length ≤ b.length := Nat.le_trans (nw_len_mono hgl) (nw_norm_len hb)
  generalize Nat.gcd (val a) (val b) = g at *
  have c2 := commonOne g (by omega)
  have hne : ¬ (nw g).length = 0 := fun h => by have := nw_nil h; omega
  by_cases h1 : g = 1
  · subst h1
    have c3 := natNorm a (by omega)
    have c4 := natNorm b (by omega)
    rw [trim_nw ha] at c3
    rw [trim_nw hb] at c4
    rw [Nat.div_one, Nat.div_one]
    refine CallOk.of_wl Tryz.func120 rfl rfl rfl (Nat.le_of_ble_eq_true rfl) ?_
    (repeat (first | with_reducible refine WL.seq ?_ | with_reducible refine WL.skip ?_ | with_reducible refine WL.label ?_ | with_reducible refine WL.block ?_ | with_reducible refine WL.scope ?_ | with_reducible refine WL.nilS ?_ | with_reducible refine WL.reS ?_ | with_reducible refine WL.exS ?_ | with_reducible refine WL.nilB ?_ | with_reducible refine WL.nilT ?_ | with_reducible refine WL.exit ?_ | with_reducible refine WL.ret ?_ | with_reducible refine WL.exT ?_ | with_reducible refine WL.exB ?_ | with_reducible refine WL.exN rfl ?_ | with_reducible refine WL.reT ?_ | with_reducible refine WL.reB ?_ | ((first | refine WL.reg rfl ?_ | refine WL.regT mixed rfl ?_); (conv => { arg 3; simp [prep, prep1] }); (repeat (first | (refine runK_go ?_ ?_; (focus (simp; done)); (conv => { arg 4; simp (disch := omega) [if_pos, if_neg, hne] }); (first | refine contK_val ?_ | (refine contK_go ?_; (conv => { arg 5; simp })))) | (refine skip_val rfl ?_ ?_; (focus (simp; done))) | (refine runK_go ?_ ?_; (focus (simp; done)); (conv => { arg 4; simp (disch := omega) [if_pos, if_neg, hne] }); refine callU true rfl rfl ⟨_, Tryz.func160, rfl, rfl⟩ ?_; (conv => { arg 6; simp (disch := omega) [if_pos, if_neg, hne] }); refine callC_go (c1) rfl ?_; (conv => { arg 5; simp (disch := omega) [if_pos, if_neg, hne] })) | (refine runK_go ?_ ?_; (focus (simp; done)); (conv => { arg 4; simp (disch := omega) [if_pos, if_neg, hne] }); refine callU true rfl rfl ⟨_, Tryz.func161, rfl, rfl⟩ ?_; (conv => { arg 6; simp (disch := omega) [if_pos, if_neg, hne] }); refine callC_go (c2) rfl ?_; (conv => { arg 5; simp (disch := omega) [if_pos, if_neg, hne] })) | (refine runK_go ?_ ?_; (focus (simp; done)); (conv => { arg 4; simp (disch := omega) [if_pos, if_neg, hne] }); refine callU true rfl rfl ⟨_, Tryz.func126, rfl, rfl⟩ ?_; (conv => { arg 6; simp (disch := omega) [if_pos, if_neg, hne] }); refine callC_go (c3) rfl ?_; (conv => { arg 5; simp (disch := omega) [if_pos, if_neg, hne] })) | (refine runK_go ?_ ?_; (focus (simp; done)); (conv => { arg 4; simp (disch := omega) [if_pos, if_neg, hne] }); refine callU true rfl rfl ⟨_, Tryz.func126, rfl, rfl⟩ ?_; (conv => { arg 6; simp (disch := omega) [if_pos, if_neg, hne] }); refine callC_go (c4) rfl ?_; (conv => { arg 5; simp (disch := omega) [if_pos, if_neg, hne] })))); with_reducible refine runK_nil ?_; (first | refine ⟨rfl, ?_⟩ | refine ⟨by simp [quietB], by simp [quietU], ?_⟩ | skip)) | (refine WL.cond ?_; (conv => { arg 1; simp (disch := omega) [if_pos, if_neg, hne] }); (first | with_reducible refine condT ?_ | with_reducible refine condF ?_ | with_reducible refine condPT (by omega) ?_ | with_reducible refine condPF (by omega) ?_))))
    refine ⟨[], ?_⟩
    simp (disch := omega) [if_pos, if_neg]
  · have c3 := quotDiv a (nw g) ha (wf_nw _) hla (by omega) (by rw [val_nw]; exact hg0)
    have c4 := quotDiv b (nw g) hb (wf_nw _) hlb (by omega) (by rw [val_nw]; exact hg0)
    rw [val_nw] at c3 c4
    refine CallOk.of_wl Tryz.func120 rfl rfl rfl (Nat.le_of_ble_eq_true rfl) ?_
    (repeat (first | with_reducible refine WL.seq ?_ | with_reducible refine WL.skip ?_ | with_reducible refine WL.label ?_ | with_reducible refine WL.block ?_ | with_reducible refine WL.scope ?_ | with_reducible refine WL.nilS ?_ | with_reducible refine WL.reS ?_ | with_reducible refine WL.exS ?_ | with_reducible refine WL.nilB ?_ | with_reducible refine WL.nilT ?_ | with_reducible refine WL.exit ?_ | with_reducible refine WL.ret ?_ | with_reducible refine WL.exT ?_ | with_reducible refine WL.exB ?_ | with_reducible refine WL.exN rfl ?_ | with_reducible refine WL.reT ?_ | with_reducible refine WL.reB ?_ | ((first | refine WL.reg rfl ?_ | refine WL.regT mixed rfl ?_); (conv => { arg 3; simp [prep, prep1] }); (repeat (first | (refine runK_go ?_ ?_; (focus (simp; done)); (conv => { arg 4; simp (disch := omega) [if_pos, if_neg, hne, h1] }); (first | refine contK_val ?_ | (refine contK_go ?_; (conv => { arg 5; simp })))) | (refine skip_val rfl ?_ ?_; (focus (simp; done))) | (refine runK_go ?_ ?_; (focus (simp; done)); (conv => { arg 4; simp (disch := omega) [if_pos, if_neg, hne, h1] }); refine callU true rfl rfl ⟨_, Tryz.func160, rfl, rfl⟩ ?_; (conv => { arg 6; simp (disch := omega) [if_pos, if_neg, hne, h1] }); refine callC_go (c1) rfl ?_; (conv => { arg 5; simp (disch := omega) [if_pos, if_neg, hne, h1] })) | (refine runK_go ?_ ?_; (focus (simp; done)); (conv => { arg 4; simp (disch := omega) [if_pos, if_neg, hne, h1] }); refine callU true rfl rfl ⟨_, Tryz.func161, rfl, rfl⟩ ?_; (conv => { arg 6; simp (disch := omega) [if_pos, if_neg, hne, h1] }); refine callC_go (c2) rfl ?_; (conv => { arg 5; simp (disch := omega) [if_pos, if_neg, hne, h1] })) | (refine runK_go ?_ ?_; (focus (simp; done)); (conv => { arg 4; simp (disch := omega) [if_pos, if_neg, hne, h1] }); refine callU true rfl rfl ⟨_, Tryz.func162, rfl, rfl⟩ ?_; (conv => { arg 6; simp (disch := omega) [if_pos, if_neg, hne, h1] }); refine callC_go (c3) rfl ?_; (conv => { arg 5; simp (disch := omega) [if_pos, if_neg, hne, h1] })) | (refine runK_go ?_ ?_; (focus (simp; done)); (conv => { arg 4; simp (disch := omega) [if_pos, if_neg, hne, h1] }); refine callU true rfl rfl ⟨_, Tryz.func162, rfl, rfl⟩ ?_; (conv => { arg 6; simp (disch := omega) [if_pos, if_neg, hne, h1] }); refine callC_go (c4) rfl ?_; (conv => { arg 5; simp (disch := omega) [if_pos, if_neg, hne, h1] })))); with_reducible refine runK_nil ?_; (first | refine ⟨rfl, ?_⟩ | refine ⟨by simp [quietB], by simp [quietU], ?_⟩ | skip)) | (refine WL.cond ?_; (conv => { arg 1; simp (disch := omega) [if_pos, if_neg, hne, h1] }); (first | with_reducible refine condT ?_ | with_reducible refine condF ?_ | with_reducible refine condPT (by omega) ?_ | with_reducible refine condPF (by omega) ?_))))
    refine ⟨[], ?_⟩
    simp (disch := omega) [if_pos, if_neg]
end Go.Proofs.YthgldcflcmlgpaaGreatDoorE
end

section
/- Whole numbers. -/
-- x3
set_option linter.unusedVariables false
set_option linter.unusedSimpArgs false
namespace Go.Proofs.YthgldcflcmlgpaaGreatDoorE
open Go.RowKit
set_option maxRecDepth 100000
attribute [local simp] List.getElem?_cons_zero List.getElem?_cons_succ List.getElem?_nil wrap_i64 stOf st0 effF effC evalV evalL upd_n updI_n pv_t pv_c pv_g pv_f ofConst binV binI lenV foldV mx2 mn2 unV convV extractV idxV indexV fieldAddrV fieldV partV sliceV boundsV loadL live storeE appendE srcV litE makeE IntKind.bits copyE boxE allocE flatParts flatCs flatC allParts cellsOf solid leafB fillL frzL buildV fillP placeS eqFl eqCell St.eff St.put wrs callE renP renA renC renI nid newL renB noEff endK endR resA resL resV expP expA expC expN expL expBs expB idx thenQ blockQ wantK wrap_u32 wrap_u64_in beqI bneI w32 wl fdiv_pos Int.natCast_inj

def zs (neg : Bool) (n : Nat) : Int := if neg = true then -(n : Int) else n
def zv (neg : Bool) (l : List Nat) : Int := zs neg (val l)
/-- A whole number as it stands, and the right one of a value. -/
def wh (neg : Bool) (l : List Nat) : PV := .agg [.bool neg, wl l]
def whZ (z : Int) : PV := wh (decide (z < 0)) (nw z.natAbs)
theorem zs_abs (neg : Bool) (n : Nat) : (zs neg n).natAbs = n := by unfold zs; split <;> omega
theorem zs_neg (neg : Bool) (n : Nat) : decide (zs neg n < 0) = (neg && decide (0 < n)) := by
  cases neg <;> simp [zs]
theorem nw_pos_len {n : Nat} : 0 < (nw n).length ↔ 0 < n := by
  constructor
  · intro h; rcases Nat.eq_zero_or_pos n with rfl | h'
    · rw [nw_zero] at h; simp at h
    · exact h'
  · intro h; rw [nw_pos (by omega)]; simp

theorem wholeSigned (neg : Bool) (n : Nat) (hl : (nw n).length ≤ 1099511627776) : CallOk Tryz.prog 122 [.bool neg, wl (nw n)] [] (whZ (zs neg n)) [] := by
  unfold whZ wh
  rw [zs_abs, zs_neg]
  have hb : decide (0 < (nw n).length) = decide (0 < n) := by
    have := @nw_pos_len n
    by_cases h : 0 < n
    · rw [decide_eq_true h, decide_eq_true (this.2 h)]
    · rw [decide_eq_false h, decide_eq_false (fun h' => h (this.1 h'))]
  cases neg
  · refine CallOk.of_wl Tryz.func122 rfl rfl rfl (Nat.le_of_ble_eq_true rfl) ?_
    (repeat (first | with_reducible refine WL.seq ?_ | with_reducible refine WL.skip ?_ | with_reducible refine WL.label ?_ | with_reducible refine WL.block ?_ | with_reducible refine WL.scope ?_ | with_reducible refine WL.nilS ?_ | with_reducible refine WL.reS ?_ | with_reducible refine WL.exS ?_ | with_reducible refine WL.nilB ?_ | with_reducible refine WL.nilT ?_ | with_reducible refine WL.exit ?_ | with_reducible refine WL.ret ?_ | with_reducible refine WL.exT ?_ | with_reducible refine WL.exB ?_ | with_reducible refine WL.exN rfl ?_ | with_reducible refine WL.reT ?_ | with_reducible refine WL.reB ?_ | ((first | refine WL.reg rfl ?_ | refine WL.regT mixed rfl ?_); (conv => { arg 3; simp [prep, prep1] }); (repeat (first | (refine runK_go ?_ ?_; (focus (simp; done)); (conv => { arg 4; simp (disch := omega) [if_pos, if_neg] }); (first | refine contK_val ?_ | (refine contK_go ?_; (conv => { arg 5; simp })))) | (refine skip_val rfl ?_ ?_; (focus (simp; done))))); with_reducible refine runK_nil ?_; (first | refine ⟨rfl, ?_⟩ | refine ⟨by simp [quietB], by simp [quietU], ?_⟩ | skip)) | (refine WL.cond ?_; (conv => { arg 1; simp (disch := omega) [if_pos, if_neg] }); (first | with_reducible refine condT ?_ | with_reducible refine condF ?_ | with_reducible refine condPT (by omega) ?_ | with_reducible refine condPF (by omega) ?_))))
    refine ⟨[], ?_⟩
    simp (disch := omega) [if_pos, if_neg]
  · rw [← hb]
    generalize nw n = l at *
    refine CallOk.of_wl Tryz.func122 rfl rfl rfl (Nat.le_of_ble_eq_true rfl) ?_
    (repeat (first | with_reducible refine WL.seq ?_ | with_reducible refine WL.skip ?_ | with_reducible refine WL.label ?_ | with_reducible refine WL.block ?_ | with_reducible refine WL.scope ?_ | with_reducible refine WL.nilS ?_ | with_reducible refine WL.reS ?_ | with_reducible refine WL.exS ?_ | with_reducible refine WL.nilB ?_ | with_reducible refine WL.nilT ?_ | with_reducible refine WL.exit ?_ | with_reducible refine WL.ret ?_ | with_reducible refine WL.exT ?_ | with_reducible refine WL.exB ?_ | with_reducible refine WL.exN rfl ?_ | with_reducible refine WL.reT ?_ | with_reducible refine WL.reB ?_ | ((first | refine WL.reg rfl ?_ | refine WL.regT mixed rfl ?_); (conv => { arg 3; simp [prep, prep1] }); (repeat (first | (refine runK_go ?_ ?_; (focus (simp; done)); (conv => { arg 4; simp (disch := omega) [if_pos, if_neg] }); (first | refine contK_val ?_ | (refine contK_go ?_; (conv => { arg 5; simp })))) | (refine skip_val rfl ?_ ?_; (focus (simp; done))))); with_reducible refine runK_nil ?_; (first | refine ⟨rfl, ?_⟩ | refine ⟨by simp [quietB], by simp [quietU], ?_⟩ | skip)) | (refine WL.cond ?_; (conv => { arg 1; simp (disch := omega) [if_pos, if_neg] }); (first | with_reducible refine condT ?_ | with_reducible refine condF ?_ | with_reducible refine condPT (by omega) ?_ | with_reducible refine condPF (by omega) ?_))))
    refine ⟨[], ?_⟩
    simp (disch := omega) [if_pos, if_neg]

theorem wholeNorm (neg : Bool) (l : List Nat) (hw : wf l) (hl : l.length ≤ 1099511627776) : CallOk Tryz.prog 121 [wh neg l] [] (whZ (zv neg l)) [] := by
  have c1 := natNorm l hl
  rw [trim_nw hw] at c1
  have c2 := wholeSigned neg (val l) (Nat.le_trans (nw_norm_len hw) hl)
  unfold zv
  refine CallOk.of_wl Tryz.func121 rfl rfl rfl (Nat.le_of_ble_eq_true rfl) ?_
  (repeat (first | with_reducible refine WL.seq ?_ | with_reducible refine WL.skip ?_ | with_reducible refine WL.label ?_ | with_reducible refine WL.block ?_ | with_reducible refine WL.scope ?_ | with_reducible refine WL.nilS ?_ | with_reducible refine WL.reS ?_ | with_reducible refine WL.exS ?_ | with_reducible refine WL.nilB ?_ | with_reducible refine WL.nilT ?_ | with_reducible refine WL.exit ?_ | with_reducible refine WL.ret ?_ | with_reducible refine WL.exT ?_ | with_reducible refine WL.exB ?_ | with_reducible refine WL.exN rfl ?_ | with_reducible refine WL.reT ?_ | with_reducible refine WL.reB ?_ | ((first | refine WL.reg rfl ?_ | refine WL.regT mixed rfl ?_); (conv => { arg 3; simp [prep, prep1] }); (repeat (first | (refine runK_go ?_ ?_; (focus (simp; done)); (conv => { arg 4; simp (disch := omega) [if_pos, if_neg, wh] }); (first | refine contK_val ?_ | (refine contK_go ?_; (conv => { arg 5; simp })))) | (refine skip_val rfl ?_ ?_; (focus (simp; done))) | (refine runK_go ?_ ?_; (focus (simp; done)); (conv => { arg 4; simp (disch := omega) [if_pos, if_neg, wh] }); refine callU true rfl rfl ⟨_, Tryz.func126, rfl, rfl⟩ ?_; (conv => { arg 6; simp (disch := omega) [if_pos, if_neg, wh] }); refine callC_go (c1) rfl ?_; (conv => { arg 5; simp (disch := omega) [if_pos, if_neg, wh] })) | (refine runK_go ?_ ?_; (focus (simp; done)); (conv => { arg 4; simp (disch := omega) [if_pos, if_neg, wh] }); refine callU true rfl rfl ⟨_, Tryz.func122, rfl, rfl⟩ ?_; (conv => { arg 6; simp (disch := omega) [if_pos, if_neg, wh] }); refine callC_go (c2) rfl ?_; (conv => { arg 5; simp (disch := omega) [if_pos, if_neg, wh] })))); with_reducible refine runK_nil ?_; (first | refine ⟨rfl, ?_⟩ | refine ⟨by simp [quietB], by simp [quietU], ?_⟩ | skip)) | (refine WL.cond ?_; (conv => { arg 1; simp (disch := omega) [if_pos, if_neg, wh] }); (first | with_reducible refine condT ?_ | with_reducible refine condF ?_ | with_reducible refine condPT (by omega) ?_ | with_reducible refine condPF (by omega) ?_))))
  refine ⟨[], ?_⟩
  simp (disch := omega) [if_pos, if_neg, whZ, wh]

theorem wholeNeg (neg : Bool) (l : List Nat) (hw : wf l) (hl : l.length ≤ 1099511627776) : CallOk Tryz.prog 108 [wh neg l] [] (whZ (- zv neg l)) [] := by
  have c1 := natNorm l hl
  rw [trim_nw hw] at c1
  have c2 := wholeSigned (!neg) (val l) (Nat.le_trans (nw_norm_len hw) hl)
  have e : - zv neg l = zs (!neg) (val l) := by cases neg <;> simp [zv, zs]
  rw [e]
  refine CallOk.of_wl Tryz.func108 rfl rfl rfl (Nat.le_of_ble_eq_true rfl) ?_
  (repeat (first | with_reducible refine WL.seq ?_ | with_reducible refine WL.skip ?_ | with_reducible refine WL.label ?_ | with_reducible refine WL.block ?_ | with_reducible refine WL.scope ?_ | with_reducible refine WL.nilS ?_ | with_reducible refine WL.reS ?_ | with_reducible refine WL.exS ?_ | with_reducible refine WL.nilB ?_ | with_reducible refine WL.nilT ?_ | with_reducible refine WL.exit ?_ | with_reducible refine WL.ret ?_ | with_reducible refine WL.exT ?_ | with_reducible refine WL.exB ?_ | with_reducible refine WL.exN rfl ?_ | with_reducible refine WL.reT ?_ | with_reducible refine WL.reB ?_ | ((first | refine WL.reg rfl ?_ | refine WL.regT mixed rfl ?_); (conv => { arg 3; simp [prep, prep1] }); (repeat (first | (refine runK_go ?_ ?_; (focus (simp; done)); (conv => { arg 4; simp (disch := omega) [if_pos, if_neg, wh] }); (first | refine contK_val ?_ | (refine contK_go ?_; (conv => { arg 5; simp })))) | (refine skip_val rfl ?_ ?_; (focus (simp; done))) | (refine runK_go ?_ ?_; (focus (simp; done)); (conv => { arg 4; simp (disch := omega) [if_pos, if_neg, wh] }); refine callU true rfl rfl ⟨_, Tryz.func126, rfl, rfl⟩ ?_; (conv => { arg 6; simp (disch := omega) [if_pos, if_neg, wh] }); refine callC_go (c1) rfl ?_; (conv => { arg 5; simp (disch := omega) [if_pos, if_neg, wh] })) | (refine runK_go ?_ ?_; (focus (simp; done)); (conv => { arg 4; simp (disch := omega) [if_pos, if_neg, wh] }); refine callU true rfl rfl ⟨_, Tryz.func122, rfl, rfl⟩ ?_; (conv => { arg 6; simp (disch := omega) [if_pos, if_neg, wh] }); refine callC_go (c2) rfl ?_; (conv => { arg 5; simp (disch := omega) [if_pos, if_neg, wh] })))); with_reducible refine runK_nil ?_; (first | refine ⟨rfl, ?_⟩ | refine ⟨by simp [quietB], by simp [quietU], ?_⟩ | skip)) | (refine WL.cond ?_; (conv => { arg 1; simp (disch := omega) [if_pos, if_neg, wh] }); (first | with_reducible refine condT ?_ | with_reducible refine condF ?_ | with_reducible refine condPT (by omega) ?_ | with_reducible refine condPF (by omega) ?_))))
  refine ⟨[], ?_⟩
  simp (disch := omega) [if_pos, if_neg, whZ, wh]

theorem natAdd2 (a b : List Nat) (ha : wf a) (hb : wf b) (hla : a.length ≤ 274877906944) (hlb : b.length ≤ 274877906944) : CallOk Tryz.prog 123 [.rd [wl a, wl b] 2] [] (wl (nw (val a + val b))) [] := by
  have hk : sumV [a, b] < 4294967296 ^ (max a.length b.length + 1) := by
    have h1 : val a < 4294967296 ^ max a.length b.length := Nat.lt_of_lt_of_le (val_lt ha) (Nat.pow_le_pow_right (by decide) (Nat.le_max_left _ _))
    have h2 : val b < 4294967296 ^ max a.length b.length := Nat.lt_of_lt_of_le (val_lt hb) (Nat.pow_le_pow_right (by decide) (Nat.le_max_right _ _))
    rw [Nat.pow_succ]
    generalize 4294967296 ^ max a.length b.length = P at *
    simp [sumV]; omega
  have := natAdd [a, b] (by intro l hl; simp at hl; rcases hl with rfl | rfl <;> assumption) (by intro l hl; simp at hl; rcases hl with rfl | rfl <;> omega) (max a.length b.length + 1) (by omega) hk (by simp)
  simpa [sumV] using this

theorem wholeAdd (na nb : Bool) (a b : List Nat) (ha : wf a) (hb : wf b) (hla : a.length ≤ 274877906944) (hlb : b.length ≤ 274877906944) : CallOk Tryz.prog 82 [wh na a, wh nb b] [] (whZ (zv na a + zv nb b)) [] := by
  have c1 := natAdd2 a b ha hb hla hlb
  have c2 := natGap a b ha hb (by omega) (by omega)
  have l1 : (nw (val a + val b)).length ≤ 1099511627776 := by
    have h1 : val a < 4294967296 ^ max a.length b.length := Nat.lt_of_lt_of_le (val_lt ha) (Nat.pow_le_pow_right (by decide) (Nat.le_max_left _ _))
    have h2 : val b < 4294967296 ^ max a.length b.length := Nat.lt_of_lt_of_le (val_lt hb) (Nat.pow_le_pow_right (by decide) (Nat.le_max_right _ _))
    have : (nw (val a + val b)).length ≤ max a.length b.length + 1 := nw_len_le (by
      rw [Nat.pow_succ]
      generalize 4294967296 ^ max a.length b.length = P at *
      omega)
    omega
  have l2 : (nw (val a - val b + (val b - val a))).length ≤ (nw (val a + val b)).length := nw_len_mono (by omega)
  have c3 := wholeSigned na (val a + val b) l1
  have c4 := wholeSigned na (val a - val b + (val b - val a)) (by omega)
  have c5 := wholeSigned nb (val a - val b + (val b - val a)) (by omega)
  by_cases hn : na = nb
  · have e : zv na a + zv nb b = zs na (val a + val b) := by subst hn; unfold zv zs; cases na <;> simp <;> omega
    rw [e]
    subst hn
    generalize val a + val b = sm at *
    refine CallOk.of_wl Tryz.func82 rfl rfl rfl (Nat.le_of_ble_eq_true rfl) ?_
    (repeat (first | with_reducible refine WL.seq ?_ | with_reducible refine WL.skip ?_ | with_reducible refine WL.label ?_ | with_reducible refine WL.block ?_ | with_reducible refine WL.scope ?_ | with_reducible refine WL.nilS ?_ | with_reducible refine WL.reS ?_ | with_reducible refine WL.exS ?_ | with_reducible refine WL.nilB ?_ | with_reducible refine WL.nilT ?_ | with_reducible refine WL.exit ?_ | with_reducible refine WL.ret ?_ | with_reducible refine WL.exT ?_ | with_reducible refine WL.exB ?_ | with_reducible refine WL.exN rfl ?_ | with_reducible refine WL.reT ?_ | with_reducible refine WL.reB ?_ | ((first | refine WL.reg rfl ?_ | refine WL.regT mixed rfl ?_); (conv => { arg 3; simp [prep, prep1] }); (repeat (first | (refine runK_go ?_ ?_; (focus (simp; done)); (conv => { arg 4; simp (disch := omega) [if_pos, if_neg, wh] }); (first | refine contK_val ?_ | (refine contK_go ?_; (conv => { arg 5; simp })))) | (refine skip_val rfl ?_ ?_; (focus (simp; done))) | (refine runK_go ?_ ?_; (focus (simp; done)); (conv => { arg 4; simp (disch := omega) [if_pos, if_neg, wh] }); refine callU true rfl rfl ⟨_, Tryz.func123, rfl, rfl⟩ ?_; (conv => { arg 6; simp (disch := omega) [if_pos, if_neg, wh] }); refine callC_go (c1) rfl ?_; (conv => { arg 5; simp (disch := omega) [if_pos, if_neg, wh] })) | (refine runK_go ?_ ?_; (focus (simp; done)); (conv => { arg 4; simp (disch := omega) [if_pos, if_neg, wh] }); refine callU true rfl rfl ⟨_, Tryz.func122, rfl, rfl⟩ ?_; (conv => { arg 6; simp (disch := omega) [if_pos, if_neg, wh] }); refine callC_go (c3) rfl ?_; (conv => { arg 5; simp (disch := omega) [if_pos, if_neg, wh] })))); with_reducible refine runK_nil ?_; (first | refine ⟨rfl, ?_⟩ | refine ⟨by simp [quietB], by simp [quietU], ?_⟩ | skip)) | (refine WL.cond ?_; (conv => { arg 1; simp (disch := omega) [if_pos, if_neg, wh] }); (first | with_reducible refine condT ?_ | with_reducible refine condF ?_ | with_reducible refine condPT (by omega) ?_ | with_reducible refine condPF (by omega) ?_))))
    refine ⟨[], ?_⟩
    simp (disch := omega) [if_pos, if_neg, whZ, wh]
  · have hn' : (na == nb) = false := by simpa using hn
    by_cases hlt : val a < val b
    · have hc : cmpI (val a) (val b) = -1 := by simp [cmpI, hlt]
      have e : zv na a + zv nb b = zs nb (val a - val b + (val b - val a)) := by
        cases na <;> cases nb <;> simp at hn <;> simp only [zv, zs] <;> simp <;> omega
      rw [hc] at c2
      rw [e]
      generalize val a - val b + (val b - val a) = gp at *
      refine CallOk.of_wl Tryz.func82 rfl rfl rfl (Nat.le_of_ble_eq_true rfl) ?_
      (repeat (first | with_reducible refine WL.seq ?_ | with_reducible refine WL.skip ?_ | with_reducible refine WL.label ?_ | with_reducible refine WL.block ?_ | with_reducible refine WL.scope ?_ | with_reducible refine WL.nilS ?_ | with_reducible refine WL.reS ?_ | with_reducible refine WL.exS ?_ | with_reducible refine WL.nilB ?_ | with_reducible refine WL.nilT ?_ | with_reducible refine WL.exit ?_ | with_reducible refine WL.ret ?_ | with_reducible refine WL.exT ?_ | with_reducible refine WL.exB ?_ | with_reducible refine WL.exN rfl ?_ | with_reducible refine WL.reT ?_ | with_reducible refine WL.reB ?_ | ((first | refine WL.reg rfl ?_ | refine WL.regT mixed rfl ?_); (conv => { arg 3; simp [prep, prep1] }); (repeat (first | (refine runK_go ?_ ?_; (focus (simp; done)); (conv => { arg 4; simp (disch := omega) [if_pos, if_neg, wh, hn'] }); (first | refine contK_val ?_ | (refine contK_go ?_; (conv => { arg 5; simp })))) | (refine skip_val rfl ?_ ?_; (focus (simp; done))) | (refine runK_go ?_ ?_; (focus (simp; done)); (conv => { arg 4; simp (disch := omega) [if_pos, if_neg, wh, hn'] }); refine callU true rfl rfl ⟨_, Tryz.func124, rfl, rfl⟩ ?_; (conv => { arg 6; simp (disch := omega) [if_pos, if_neg, wh, hn'] }); refine callC_go (c2) rfl ?_; (conv => { arg 5; simp (disch := omega) [if_pos, if_neg, wh, hn'] })) | (refine runK_go ?_ ?_; (focus (simp; done)); (conv => { arg 4; simp (disch := omega) [if_pos, if_neg, wh, hn'] }); refine callU true rfl rfl ⟨_, Tryz.func122, rfl, rfl⟩ ?_; (conv => { arg 6; simp (disch := omega) [if_pos, if_neg, wh, hn'] }); refine callC_go (c5) rfl ?_; (conv => { arg 5; simp (disch := omega) [if_pos, if_neg, wh, hn'] })))); with_reducible refine runK_nil ?_; (first | refine ⟨rfl, ?_⟩ | refine ⟨by simp [quietB], by simp [quietU], ?_⟩ | skip)) | (refine WL.cond ?_; (conv => { arg 1; simp (disch := omega) [if_pos, if_neg, wh, hn'] }); (first | with_reducible refine condT ?_ | with_reducible refine condF ?_ | with_reducible refine condPT (by omega) ?_ | with_reducible refine condPF (by omega) ?_))))
      refine ⟨[], ?_⟩
      simp (disch := omega) [if_pos, if_neg, whZ, wh]
    · have hc : ¬ cmpI (val a) (val b) < 0 := by unfold cmpI; rw [if_neg hlt]; split <;> simp
      have e : zv na a + zv nb b = zs na (val a - val b + (val b - val a)) := by
        cases na <;> cases nb <;> simp at hn <;> simp only [zv, zs] <;> simp <;> omega
      rw [e]
      generalize val a - val b + (val b - val a) = gp at *
      refine CallOk.of_wl Tryz.func82 rfl rfl rfl (Nat.le_of_ble_eq_true rfl) ?_
      (repeat (first | with_reducible refine WL.seq ?_ | with_reducible refine WL.skip ?_ | with_reducible refine WL.label ?_ | with_reducible refine WL.block ?_ | with_reducible refine WL.scope ?_ | with_reducible refine WL.nilS ?_ | with_reducible refine WL.reS ?_ | with_reducible refine WL.exS ?_ | with_reducible refine WL.nilB ?_ | with_reducible refine WL.nilT ?_ | with_reducible refine WL.exit ?_ | with_reducible refine WL.ret ?_ | with_reducible refine WL.exT ?_ | with_reducible refine WL.exB ?_ | with_reducible refine WL.exN rfl ?_ | with_reducible refine WL.reT ?_ | with_reducible refine WL.reB ?_ | ((first | refine WL.reg rfl ?_ | refine WL.regT mixed rfl ?_); (conv => { arg 3; simp [prep, prep1] }); (repeat (first | (refine runK_go ?_ ?_; (focus (simp; done)); (conv => { arg 4; simp (disch := omega) [if_pos, if_neg, wh, hn', hc] }); (first | refine contK_val ?_ | (refine contK_go ?_; (conv => { arg 5; simp })))) | (refine skip_val rfl ?_ ?_; (focus (simp; done))) | (refine runK_go ?_ ?_; (focus (simp; done)); (conv => { arg 4; simp (disch := omega) [if_pos, if_neg, wh, hn', hc] }); refine callU true rfl rfl ⟨_, Tryz.func124, rfl, rfl⟩ ?_; (conv => { arg 6; simp (disch := omega) [if_pos, if_neg, wh, hn', hc] }); refine callC_go (c2) rfl ?_; (conv => { arg 5; simp (disch := omega) [if_pos, if_neg, wh, hn', hc] })) | (refine runK_go ?_ ?_; (focus (simp; done)); (conv => { arg 4; simp (disch := omega) [if_pos, if_neg, wh, hn', hc] }); refine callU true rfl rfl ⟨_, Tryz.func122, rfl, rfl⟩ ?_; (conv => { arg 6; simp (disch := omega) [if_pos, if_neg, wh, hn', hc] }); refine callC_go (c4) rfl ?_; (conv => { arg 5; simp (disch := omega) [if_pos, if_neg, wh, hn', hc] })))); with_reducible refine runK_nil ?_; (first | refine ⟨rfl, ?_⟩ | refine ⟨by simp [quietB], by simp [quietU], ?_⟩ | skip)) | (refine WL.cond ?_; (conv => { arg 1; simp (disch := omega) [if_pos, if_neg, wh, hn', hc] }); (first | with_reducible refine condT ?_ | with_reducible refine condF ?_ | with_reducible refine condPT (by omega) ?_ | with_reducible refine condPF (by omega) ?_))))
      refine ⟨[], ?_⟩
      simp (disch := omega) [if_pos, if_neg, whZ, wh]
end Go.Proofs.YthgldcflcmlgpaaGreatDoorE
end

section
/- Whole numbers: difference, product, sign, order, numbers of the machine's. -/
-- x3
set_option linter.unusedVariables false
set_option linter.unusedSimpArgs false
namespace Go.Proofs.YthgldcflcmlgpaaGreatDoorE
open Go.RowKit
set_option maxRecDepth 100000
attribute [local simp] List.getElem?_cons_zero List.getElem?_cons_succ List.getElem?_nil wrap_i64 stOf st0 effF effC evalV evalL upd_n updI_n pv_t pv_c pv_g pv_f ofConst binV binI lenV foldV mx2 mn2 unV convV extractV idxV indexV fieldAddrV fieldV partV sliceV boundsV loadL live storeE appendE srcV litE makeE IntKind.bits copyE boxE allocE flatParts flatCs flatC allParts cellsOf solid leafB fillL frzL buildV fillP placeS eqFl eqCell St.eff St.put wrs callE renP renA renC renI nid newL renB noEff endK endR resA resL resV expP expA expC expN expL expBs expB idx thenQ blockQ wantK wrap_u32 wrap_u64_in beqI bneI w32 wl fdiv_pos Int.natCast_inj

theorem zv_nw (z : Int) : zv (decide (z < 0)) (nw z.natAbs) = z := by
  unfold zv zs; rw [val_nw]
  by_cases h : z < 0
  · simp [h]; omega
  · simp [h]; omega
theorem zv_abs (neg : Bool) (l : List Nat) : (zv neg l).natAbs = val l := zs_abs _ _
theorem nw_abs_len {neg : Bool} {l : List Nat} (h : wf l) : (nw (zv neg l).natAbs).length ≤ l.length := by rw [zv_abs]; exact nw_norm_len h

theorem wholeSub (na nb : Bool) (a b : List Nat) (ha : wf a) (hb : wf b) (hla : a.length ≤ 274877906944) (hlb : b.length ≤ 274877906944) : CallOk Tryz.prog 151 [wh na a, wh nb b] [] (whZ (zv na a - zv nb b)) [] := by
  have c1 := wholeNeg nb b hb (by omega)
  have c2 := wholeAdd na (decide (-zv nb b < 0)) a (nw (-zv nb b).natAbs) ha (wf_nw _) hla (by
    rw [Int.natAbs_neg]; exact Nat.le_trans (nw_abs_len hb) hlb)
  rw [zv_nw, ← Int.sub_eq_add_neg] at c2
  unfold whZ at c1
  generalize -zv nb b = z at *
  generalize zv na a - zv nb b = w at *
  refine CallOk.of_wl Tryz.func151 rfl rfl rfl (Nat.le_of_ble_eq_true rfl) ?_
  (repeat (first | with_reducible refine WL.seq ?_ | with_reducible refine WL.skip ?_ | with_reducible refine WL.label ?_ | with_reducible refine WL.block ?_ | with_reducible refine WL.scope ?_ | with_reducible refine WL.nilS ?_ | with_reducible refine WL.reS ?_ | with_reducible refine WL.exS ?_ | with_reducible refine WL.nilB ?_ | with_reducible refine WL.nilT ?_ | with_reducible refine WL.exit ?_ | with_reducible refine WL.ret ?_ | with_reducible refine WL.exT ?_ | with_reducible refine WL.exB ?_ | with_reducible refine WL.exN rfl ?_ | with_reducible refine WL.reT ?_ | with_reducible refine WL.reB ?_ | ((first | refine WL.reg rfl ?_ | refine WL.regT mixed rfl ?_); (conv => { arg 3; simp [prep, prep1] }); (repeat (first | (refine runK_go ?_ ?_; (focus (simp; done)); (conv => { arg 4; simp (disch := omega) [if_pos, if_neg, wh] }); (first | refine contK_val ?_ | (refine contK_go ?_; (conv => { arg 5; simp })))) | (refine skip_val rfl ?_ ?_; (focus (simp; done))) | (refine runK_go ?_ ?_; (focus (simp; done)); (conv => { arg 4; simp (disch := omega) [if_pos, if_neg, wh] }); refine callU true rfl rfl ⟨_, Tryz.func108, rfl, rfl⟩ ?_; (conv => { arg 6; simp (disch := omega) [if_pos, if_neg, wh] }); refine callC_go (c1) rfl ?_; (conv => { arg 5; simp (disch := omega) [if_pos, if_neg, wh] })) | (refine runK_go ?_ ?_; (focus (simp; done)); (conv => { arg 4; simp (disch := omega) [if_pos, if_neg, wh] }); refine callU true rfl rfl ⟨_, Tryz.func82, rfl, rfl⟩ ?_; (conv => { arg 6; simp (disch := omega) [if_pos, if_neg, wh] }); refine callC_go (c2) rfl ?_; (conv => { arg 5; simp (disch := omega) [if_pos, if_neg, wh] })))); with_reducible refine runK_nil ?_; (first | refine ⟨rfl, ?_⟩ | refine ⟨by simp [quietB], by simp [quietU], ?_⟩ | skip)) | (refine WL.cond ?_; (conv => { arg 1; simp (disch := omega) [if_pos, if_neg, wh] }); (first | with_reducible refine condT ?_ | with_reducible refine condF ?_ | with_reducible refine condPT (by omega) ?_ | with_reducible refine condPF (by omega) ?_))))
  refine ⟨[], ?_⟩
  simp (disch := omega) [if_pos, if_neg, whZ, wh]

theorem wholeMul (na nb : Bool) (a b : List Nat) (ha : wf a) (hb : wf b) (hl : a.length + b.length ≤ 274877906944) : CallOk Tryz.prog 98 [wh na a, wh nb b] [] (whZ (zv na a * zv nb b)) [] := by
  have c1 := prodMul a b ha hb (by omega)
  have hle : (nw (val a * val b)).length ≤ a.length + b.length := nw_len_le (by
    rw [Nat.pow_add]
    exact Nat.mul_lt_mul'' (val_lt ha) (val_lt hb))
  have c2 := wholeSigned (na != nb) (val a * val b) (by omega)
  have e : zv na a * zv nb b = zs (na != nb) (val a * val b) := by cases na <;> cases nb <;> simp [zv, zs, Int.neg_mul, Int.mul_neg]
  rw [e]
  generalize val a * val b = p at *
  refine CallOk.of_wl Tryz.func98 rfl rfl rfl (Nat.le_of_ble_eq_true rfl) ?_
  (repeat (first | with_reducible refine WL.seq ?_ | with_reducible refine WL.skip ?_ | with_reducible refine WL.label ?_ | with_reducible refine WL.block ?_ | with_reducible refine WL.scope ?_ | with_reducible refine WL.nilS ?_ | with_reducible refine WL.reS ?_ | with_reducible refine WL.exS ?_ | with_reducible refine WL.nilB ?_ | with_reducible refine WL.nilT ?_ | with_reducible refine WL.exit ?_ | with_reducible refine WL.ret ?_ | with_reducible refine WL.exT ?_ | with_reducible refine WL.exB ?_ | with_reducible refine WL.exN rfl ?_ | with_reducible refine WL.reT ?_ | with_reducible refine WL.reB ?_ | ((first | refine WL.reg rfl ?_ | refine WL.regT mixed rfl ?_); (conv => { arg 3; simp [prep, prep1] }); (repeat (first | (refine runK_go ?_ ?_; (focus (simp; done)); (conv => { arg 4; simp (disch := omega) [if_pos, if_neg, wh] }); (first | refine contK_val ?_ | (refine contK_go ?_; (conv => { arg 5; simp })))) | (refine skip_val rfl ?_ ?_; (focus (simp; done))) | (refine runK_go ?_ ?_; (focus (simp; done)); (conv => { arg 4; simp (disch := omega) [if_pos, if_neg, wh] }); refine callU true rfl rfl ⟨_, Tryz.func84, rfl, rfl⟩ ?_; (conv => { arg 6; simp (disch := omega) [if_pos, if_neg, wh] }); refine callC_go (c1) rfl ?_; (conv => { arg 5; simp (disch := omega) [if_pos, if_neg, wh] })) | (refine runK_go ?_ ?_; (focus (simp; done)); (conv => { arg 4; simp (disch := omega) [if_pos, if_neg, wh] }); refine callU true rfl rfl ⟨_, Tryz.func122, rfl, rfl⟩ ?_; (conv => { arg 6; simp (disch := omega) [if_pos, if_neg, wh] }); refine callC_go (c2) rfl ?_; (conv => { arg 5; simp (disch := omega) [if_pos, if_neg, wh] })))); with_reducible refine runK_nil ?_; (first | refine ⟨rfl, ?_⟩ | refine ⟨by simp [quietB], by simp [quietU], ?_⟩ | skip)) | (refine WL.cond ?_; (conv => { arg 1; simp (disch := omega) [if_pos, if_neg, wh] }); (first | with_reducible refine condT ?_ | with_reducible refine condF ?_ | with_reducible refine condPT (by omega) ?_ | with_reducible refine condPF (by omega) ?_))))
  refine ⟨[], ?_⟩
  simp (disch := omega) [if_pos, if_neg, whZ, wh]

/-- Which side of nought. -/
def sgn (z : Int) : Int := if z = 0 then 0 else if z < 0 then -1 else 1
theorem trimL_nil {l : List Nat} (h : wf l) : (decide (trimL l = []) = decide (val l = 0)) := by
  rw [trim_nw h]
  by_cases h0 : val l = 0
  · rw [h0, nw_zero]; rfl
  · rw [nw_pos h0]; simp [h0]

theorem wholeSign (neg : Bool) (l : List Nat) (hw : wf l) (hl : l.length ≤ 1099511627776) : CallOk Tryz.prog 80 [wh neg l] [] (.int .i64 (sgn (zv neg l))) [] := by
  have c1 := natZero l hl
  rw [trimL_nil hw] at c1
  by_cases h0 : val l = 0
  · have e : sgn (zv neg l) = 0 := by unfold zv zs; rw [h0]; cases neg <;> simp [sgn]
    rw [e]
    refine CallOk.of_wl Tryz.func80 rfl rfl rfl (Nat.le_of_ble_eq_true rfl) ?_
    (repeat (first | with_reducible refine WL.seq ?_ | with_reducible refine WL.skip ?_ | with_reducible refine WL.label ?_ | with_reducible refine WL.block ?_ | with_reducible refine WL.scope ?_ | with_reducible refine WL.nilS ?_ | with_reducible refine WL.reS ?_ | with_reducible refine WL.exS ?_ | with_reducible refine WL.nilB ?_ | with_reducible refine WL.nilT ?_ | with_reducible refine WL.exit ?_ | with_reducible refine WL.ret ?_ | with_reducible refine WL.exT ?_ | with_reducible refine WL.exB ?_ | with_reducible refine WL.exN rfl ?_ | with_reducible refine WL.reT ?_ | with_reducible refine WL.reB ?_ | ((first | refine WL.reg rfl ?_ | refine WL.regT mixed rfl ?_); (conv => { arg 3; simp [prep, prep1] }); (repeat (first | (refine runK_go ?_ ?_; (focus (simp; done)); (conv => { arg 4; simp (disch := omega) [if_pos, if_neg, wh, h0] }); (first | refine contK_val ?_ | (refine contK_go ?_; (conv => { arg 5; simp })))) | (refine skip_val rfl ?_ ?_; (focus (simp; done))) | (refine runK_go ?_ ?_; (focus (simp; done)); (conv => { arg 4; simp (disch := omega) [if_pos, if_neg, wh, h0] }); refine callU true rfl rfl ⟨_, Tryz.func119, rfl, rfl⟩ ?_; (conv => { arg 6; simp (disch := omega) [if_pos, if_neg, wh, h0] }); refine callC_go (c1) rfl ?_; (conv => { arg 5; simp (disch := omega) [if_pos, if_neg, wh, h0] })))); with_reducible refine runK_nil ?_; (first | refine ⟨rfl, ?_⟩ | refine ⟨by simp [quietB], by simp [quietU], ?_⟩ | skip)) | (refine WL.cond ?_; (conv => { arg 1; simp (disch := omega) [if_pos, if_neg, wh, h0] }); (first | with_reducible refine condT ?_ | with_reducible refine condF ?_ | with_reducible refine condPT (by omega) ?_ | with_reducible refine condPF (by omega) ?_))))
    refine ⟨[], ?_⟩
    simp (disch := omega) [if_pos, if_neg]
  · have e : sgn (zv neg l) = if neg = true then -1 else 1 := by
      unfold sgn zv zs; cases neg <;> simp <;> omega
    rw [e]
    cases neg
    all_goals
      refine CallOk.of_wl Tryz.func80 rfl rfl rfl (Nat.le_of_ble_eq_true rfl) ?_
      (repeat (first | with_reducible refine WL.seq ?_ | with_reducible refine WL.skip ?_ | with_reducible refine WL.label ?_ | with_reducible refine WL.block ?_ | with_reducible refine WL.scope ?_ | with_reducible refine WL.nilS ?_ | with_reducible refine WL.reS ?_ | with_reducible refine WL.exS ?_ | with_reducible refine WL.nilB ?_ | with_reducible refine WL.nilT ?_ | with_reducible refine WL.exit ?_ | with_reducible refine WL.ret ?_ | with_reducible refine WL.exT ?_ | with_reducible refine WL.exB ?_ | with_reducible refine WL.exN rfl ?_ | with_reducible refine WL.reT ?_ | with_reducible refine WL.reB ?_ | ((first | refine WL.reg rfl ?_ | refine WL.regT mixed rfl ?_); (conv => { arg 3; simp [prep, prep1] }); (repeat (first | (refine runK_go ?_ ?_; (focus (simp; done)); (conv => { arg 4; simp (disch := omega) [if_pos, if_neg, wh, h0] }); (first | refine contK_val ?_ | (refine contK_go ?_; (conv => { arg 5; simp })))) | (refine skip_val rfl ?_ ?_; (focus (simp; done))) | (refine runK_go ?_ ?_; (focus (simp; done)); (conv => { arg 4; simp (disch := omega) [if_pos, if_neg, wh, h0] }); refine callU true rfl rfl ⟨_, Tryz.func119, rfl, rfl⟩ ?_; (conv => { arg 6; simp (disch := omega) [if_pos, if_neg, wh, h0] }); refine callC_go (c1) rfl ?_; (conv => { arg 5; simp (disch := omega) [if_pos, if_neg, wh, h0] })))); with_reducible refine runK_nil ?_; (first | refine ⟨rfl, ?_⟩ | refine ⟨by simp [quietB], by simp [quietU], ?_⟩ | skip)) | (refine WL.cond ?_; (conv => { arg 1; simp (disch := omega) [if_pos, if_neg, wh, h0] }); (first | with_reducible refine condT ?_ | with_reducible refine condF ?_ | with_reducible refine condPT (by omega) ?_ | with_reducible refine condPF (by omega) ?_))))
      refine ⟨[], ?_⟩
      simp (disch := omega) [if_pos, if_neg]

theorem wholeCmp (na nb : Bool) (a b : List Nat) (ha : wf a) (hb : wf b) (hla : a.length ≤ 274877906944) (hlb : b.length ≤ 274877906944) : CallOk Tryz.prog 100 [wh na a, wh nb b] [] (.int .i64 (sgn (zv na a - zv nb b))) [] := by
  have c1 := wholeSub na nb a b ha hb hla hlb
  have hlen : (nw (zv na a - zv nb b).natAbs).length ≤ 1099511627776 := by
    have h1 : val a < 4294967296 ^ max a.length b.length := Nat.lt_of_lt_of_le (val_lt ha) (Nat.pow_le_pow_right (by decide) (Nat.le_max_left _ _))
    have h2 : val b < 4294967296 ^ max a.length b.length := Nat.lt_of_lt_of_le (val_lt hb) (Nat.pow_le_pow_right (by decide) (Nat.le_max_right _ _))
    have h3 : (zv na a - zv nb b).natAbs ≤ val a + val b := by unfold zv zs; cases na <;> cases nb <;> simp <;> omega
    have : (nw (zv na a - zv nb b).natAbs).length ≤ max a.length b.length + 1 := nw_len_le (by
      rw [Nat.pow_succ]
      generalize 4294967296 ^ max a.length b.length = P at *
      omega)
    omega
  have c2 := wholeSign (decide (zv na a - zv nb b < 0)) (nw (zv na a - zv nb b).natAbs) (wf_nw _) hlen
  rw [zv_nw] at c2
  unfold whZ at c1
  generalize zv na a - zv nb b = z at *
  refine CallOk.of_wl Tryz.func100 rfl rfl rfl (Nat.le_of_ble_eq_true rfl) ?_
  (repeat (first | with_reducible refine WL.seq ?_ | with_reducible refine WL.skip ?_ | with_reducible refine WL.label ?_ | with_reducible refine WL.block ?_ | with_reducible refine WL.scope ?_ | with_reducible refine WL.nilS ?_ | with_reducible refine WL.reS ?_ | with_reducible refine WL.exS ?_ | with_reducible refine WL.nilB ?_ | with_reducible refine WL.nilT ?_ | with_reducible refine WL.exit ?_ | with_reducible refine WL.ret ?_ | with_reducible refine WL.exT ?_ | with_reducible refine WL.exB ?_ | with_reducible refine WL.exN rfl ?_ | with_reducible refine WL.reT ?_ | with_reducible refine WL.reB ?_ | ((first | refine WL.reg rfl ?_ | refine WL.regT mixed rfl ?_); (conv => { arg 3; simp [prep, prep1] }); (repeat (first | (refine runK_go ?_ ?_; (focus (simp; done)); (conv => { arg 4; simp (disch := omega) [if_pos, if_neg, wh] }); (first | refine contK_val ?_ | (refine contK_go ?_; (conv => { arg 5; simp })))) | (refine skip_val rfl ?_ ?_; (focus (simp; done))) | (refine runK_go ?_ ?_; (focus (simp; done)); (conv => { arg 4; simp (disch := omega) [if_pos, if_neg, wh] }); refine callU true rfl rfl ⟨_, Tryz.func151, rfl, rfl⟩ ?_; (conv => { arg 6; simp (disch := omega) [if_pos, if_neg, wh] }); refine callC_go (c1) rfl ?_; (conv => { arg 5; simp (disch := omega) [if_pos, if_neg, wh] })) | (refine runK_go ?_ ?_; (focus (simp; done)); (conv => { arg 4; simp (disch := omega) [if_pos, if_neg, wh] }); refine callU true rfl rfl ⟨_, Tryz.func80, rfl, rfl⟩ ?_; (conv => { arg 6; simp (disch := omega) [if_pos, if_neg, wh] }); refine callC_go (c2) rfl ?_; (conv => { arg 5; simp (disch := omega) [if_pos, if_neg, wh] })))); with_reducible refine runK_nil ?_; (first | refine ⟨rfl, ?_⟩ | refine ⟨by simp [quietB], by simp [quietU], ?_⟩ | skip)) | (refine WL.cond ?_; (conv => { arg 1; simp (disch := omega) [if_pos, if_neg, wh] }); (first | with_reducible refine condT ?_ | with_reducible refine condF ?_ | with_reducible refine condPT (by omega) ?_ | with_reducible refine condPF (by omega) ?_))))
  refine ⟨[], ?_⟩
  simp (disch := omega) [if_pos, if_neg]

theorem wholeOf (n : Int) (h : -9223372036854775808 ≤ n ∧ n ≤ 9223372036854775807) : CallOk Tryz.prog 105 [.int .i64 n] [] (whZ n) [] := by
  have hl : (nw n.natAbs).length ≤ 2 := nw_len_le (by
    have : n.natAbs ≤ 9223372036854775808 := by omega
    exact Nat.lt_of_le_of_lt this (by decide))
  have c1 := natOf n.natAbs (by omega)
  by_cases hn : n < 0
  · have c2 := wholeSigned true n.natAbs (by omega)
    have e : zs true n.natAbs = n := by simp [zs]; omega
    have e2 : -(n % 18446744073709551616) % 18446744073709551616 = (n.natAbs : Int) := by omega
    rw [e] at c2
    generalize n.natAbs = k at *
    refine CallOk.of_wl Tryz.func105 rfl rfl rfl (Nat.le_of_ble_eq_true rfl) ?_
    (repeat (first | with_reducible refine WL.seq ?_ | with_reducible refine WL.skip ?_ | with_reducible refine WL.label ?_ | with_reducible refine WL.block ?_ | with_reducible refine WL.scope ?_ | with_reducible refine WL.nilS ?_ | with_reducible refine WL.reS ?_ | with_reducible refine WL.exS ?_ | with_reducible refine WL.nilB ?_ | with_reducible refine WL.nilT ?_ | with_reducible refine WL.exit ?_ | with_reducible refine WL.ret ?_ | with_reducible refine WL.exT ?_ | with_reducible refine WL.exB ?_ | with_reducible refine WL.exN rfl ?_ | with_reducible refine WL.reT ?_ | with_reducible refine WL.reB ?_ | ((first | refine WL.reg rfl ?_ | refine WL.regT mixed rfl ?_); (conv => { arg 3; simp [prep, prep1] }); (repeat (first | (refine runK_go ?_ ?_; (focus (simp; done)); (conv => { arg 4; simp (disch := omega) [if_pos, if_neg, hn, wrap_u64, e2] }); (first | refine contK_val ?_ | (refine contK_go ?_; (conv => { arg 5; simp })))) | (refine skip_val rfl ?_ ?_; (focus (simp; done))) | (refine runK_go ?_ ?_; (focus (simp; done)); (conv => { arg 4; simp (disch := omega) [if_pos, if_neg, hn, wrap_u64, e2] }); refine callU true rfl rfl ⟨_, Tryz.func106, rfl, rfl⟩ ?_; (conv => { arg 6; simp (disch := omega) [if_pos, if_neg, hn, wrap_u64, e2] }); refine callC_go (c1) rfl ?_; (conv => { arg 5; simp (disch := omega) [if_pos, if_neg, hn, wrap_u64, e2] })) | (refine runK_go ?_ ?_; (focus (simp; done)); (conv => { arg 4; simp (disch := omega) [if_pos, if_neg, hn, wrap_u64, e2] }); refine callU true rfl rfl ⟨_, Tryz.func122, rfl, rfl⟩ ?_; (conv => { arg 6; simp (disch := omega) [if_pos, if_neg, hn, wrap_u64, e2] }); refine callC_go (c2) rfl ?_; (conv => { arg 5; simp (disch := omega) [if_pos, if_neg, hn, wrap_u64, e2] })))); with_reducible refine runK_nil ?_; (first | refine ⟨rfl, ?_⟩ | refine ⟨by simp [quietB], by simp [quietU], ?_⟩ | skip)) | (refine WL.cond ?_; (conv => { arg 1; simp (disch := omega) [if_pos, if_neg, hn, wrap_u64, e2] }); (first | with_reducible refine condT ?_ | with_reducible refine condF ?_ | with_reducible refine condPT (by omega) ?_ | with_reducible refine condPF (by omega) ?_))))
    refine ⟨[], ?_⟩
    simp (disch := omega) [if_pos, if_neg, whZ, wh]
  · obtain ⟨k, rfl⟩ := Int.eq_ofNat_of_zero_le (show 0 ≤ n by omega)
    have c2 := wholeSigned false k (by rw [Int.natAbs_natCast] at hl; omega)
    have e : zs false k = (k : Int) := by simp [zs]
    rw [e] at c2
    rw [Int.natAbs_natCast] at c1
    refine CallOk.of_wl Tryz.func105 rfl rfl rfl (Nat.le_of_ble_eq_true rfl) ?_
    (repeat (first | with_reducible refine WL.seq ?_ | with_reducible refine WL.skip ?_ | with_reducible refine WL.label ?_ | with_reducible refine WL.block ?_ | with_reducible refine WL.scope ?_ | with_reducible refine WL.nilS ?_ | with_reducible refine WL.reS ?_ | with_reducible refine WL.exS ?_ | with_reducible refine WL.nilB ?_ | with_reducible refine WL.nilT ?_ | with_reducible refine WL.exit ?_ | with_reducible refine WL.ret ?_ | with_reducible refine WL.exT ?_ | with_reducible refine WL.exB ?_ | with_reducible refine WL.exN rfl ?_ | with_reducible refine WL.reT ?_ | with_reducible refine WL.reB ?_ | ((first | refine WL.reg rfl ?_ | refine WL.regT mixed rfl ?_); (conv => { arg 3; simp [prep, prep1] }); (repeat (first | (refine runK_go ?_ ?_; (focus (simp; done)); (conv => { arg 4; simp (disch := omega) [if_pos, if_neg] }); (first | refine contK_val ?_ | (refine contK_go ?_; (conv => { arg 5; simp })))) | (refine skip_val rfl ?_ ?_; (focus (simp; done))) | (refine runK_go ?_ ?_; (focus (simp; done)); (conv => { arg 4; simp (disch := omega) [if_pos, if_neg] }); refine callU true rfl rfl ⟨_, Tryz.func106, rfl, rfl⟩ ?_; (conv => { arg 6; simp (disch := omega) [if_pos, if_neg] }); refine callC_go (c1) rfl ?_; (conv => { arg 5; simp (disch := omega) [if_pos, if_neg] })) | (refine runK_go ?_ ?_; (focus (simp; done)); (conv => { arg 4; simp (disch := omega) [if_pos, if_neg] }); refine callU true rfl rfl ⟨_, Tryz.func122, rfl, rfl⟩ ?_; (conv => { arg 6; simp (disch := omega) [if_pos, if_neg] }); refine callC_go (c2) rfl ?_; (conv => { arg 5; simp (disch := omega) [if_pos, if_neg] })))); with_reducible refine runK_nil ?_; (first | refine ⟨rfl, ?_⟩ | refine ⟨by simp [quietB], by simp [quietU], ?_⟩ | skip)) | (refine WL.cond ?_; (conv => { arg 1; simp (disch := omega) [if_pos, if_neg] }); (first | with_reducible refine condT ?_ | with_reducible refine condF ?_ | with_reducible refine condPT (by omega) ?_ | with_reducible refine condPF (by omega) ?_))))
    refine ⟨[], ?_⟩
    simp (disch := omega) [if_pos, if_neg, whZ, wh]
end Go.Proofs.YthgldcflcmlgpaaGreatDoorE
end

section
/- Fractions: their parts, and the right one of two numbers. -/
-- x3
set_option linter.unusedVariables false
set_option linter.unusedSimpArgs false
namespace Go.Proofs.YthgldcflcmlgpaaGreatDoorE
open Go.RowKit
set_option maxRecDepth 100000
attribute [local simp] List.getElem?_cons_zero List.getElem?_cons_succ List.getElem?_nil wrap_i64 stOf st0 effF effC evalV evalL upd_n updI_n pv_t pv_c pv_g pv_f ofConst binV binI lenV foldV mx2 mn2 unV convV extractV idxV indexV fieldAddrV fieldV partV sliceV boundsV loadL live storeE appendE srcV litE makeE IntKind.bits copyE boxE allocE flatParts flatCs flatC allParts cellsOf solid leafB fillL frzL buildV fillP placeS eqFl eqCell St.eff St.put wrs callE renP renA renC renI nid newL renB noEff endK endR resA resL resV expP expA expC expN expL expBs expB idx thenQ blockQ wantK wrap_u32 wrap_u64_in beqI bneI w32 wl fdiv_pos Int.natCast_inj

/-- A fraction as it stands, its value, and the right one of a value. -/
def fr (neg : Bool) (n d : List Nat) : PV := .agg [.bool neg, wl n, wl d]
def qv (neg : Bool) (n d : List Nat) : Rat := mkRat (zv neg n) (val d)
def frQ (q : Rat) : PV := fr (decide (q.num < 0)) (nw q.num.natAbs) (nw q.den)
/-- How many words a value has in its longer number. -/
def szQ (q : Rat) : Nat := max (nw q.num.natAbs).length (nw q.den).length

theorem qv_frQ (q : Rat) : qv (decide (q.num < 0)) (nw q.num.natAbs) (nw q.den) = q := by
  unfold qv; rw [zv_nw, val_nw]; exact Rat.mkRat_self q

/-- What parts tells of a fraction: a sign, an upper number, a lower one that is not 0. -/
structure Parts (neg : Bool) (n d : List Nat) (s : Bool) (N D : List Nat) : Prop where
  wN : wf N
  wD : wf D
  pos : 0 < val D
  val : qv neg n d = mkRat (zv s N) (val D)
  lN : N.length ≤ n.length
  lD : D.length ≤ max 1 d.length

theorem fracParts (neg : Bool) (n d : List Nat) (hn : wf n) (hd : wf d) (hl : d.length ≤ 1099511627776) : ∃ s N D, CallOk Tryz.prog 79 [fr neg n d] [] (.tup [wh s N, wl D]) [] ∧ Parts neg n d s N D := by
  have c1 := natZero d hl
  rw [trimL_nil hd] at c1
  by_cases h0 : val d = 0
  · refine ⟨false, [], nw 1, ?_, wf_nil, wf_nw _, by rw [val_nw]; decide, ?_, by simp, by rw [nw_one]; simp; omega⟩
    · have c2 := natOf 1 (by decide)
      refine CallOk.of_wl Tryz.func79 rfl rfl rfl (Nat.le_of_ble_eq_true rfl) ?_
      (repeat (first | with_reducible refine WL.seq ?_ | with_reducible refine WL.skip ?_ | with_reducible refine WL.label ?_ | with_reducible refine WL.block ?_ | with_reducible refine WL.scope ?_ | with_reducible refine WL.nilS ?_ | with_reducible refine WL.reS ?_ | with_reducible refine WL.exS ?_ | with_reducible refine WL.nilB ?_ | with_reducible refine WL.nilT ?_ | with_reducible refine WL.exit ?_ | with_reducible refine WL.ret ?_ | with_reducible refine WL.exT ?_ | with_reducible refine WL.exB ?_ | with_reducible refine WL.exN rfl ?_ | with_reducible refine WL.reT ?_ | with_reducible refine WL.reB ?_ | ((first | refine WL.reg rfl ?_ | refine WL.regT mixed rfl ?_); (conv => { arg 3; simp [prep, prep1] }); (repeat (first | (refine runK_go ?_ ?_; (focus (simp; done)); (conv => { arg 4; simp (disch := omega) [if_pos, if_neg, fr, h0] }); (first | refine contK_val ?_ | (refine contK_go ?_; (conv => { arg 5; simp })))) | (refine skip_val rfl ?_ ?_; (focus (simp; done))) | (refine runK_go ?_ ?_; (focus (simp; done)); (conv => { arg 4; simp (disch := omega) [if_pos, if_neg, fr, h0] }); refine callU true rfl rfl ⟨_, Tryz.func119, rfl, rfl⟩ ?_; (conv => { arg 6; simp (disch := omega) [if_pos, if_neg, fr, h0] }); refine callC_go (c1) rfl ?_; (conv => { arg 5; simp (disch := omega) [if_pos, if_neg, fr, h0] })) | (refine runK_go ?_ ?_; (focus (simp; done)); (conv => { arg 4; simp (disch := omega) [if_pos, if_neg, fr, h0] }); refine callU true rfl rfl ⟨_, Tryz.func106, rfl, rfl⟩ ?_; (conv => { arg 6; simp (disch := omega) [if_pos, if_neg, fr, h0] }); refine callC_go (c2) rfl ?_; (conv => { arg 5; simp (disch := omega) [if_pos, if_neg, fr, h0] })))); with_reducible refine runK_nil ?_; (first | refine ⟨rfl, ?_⟩ | refine ⟨by simp [quietB], by simp [quietU], ?_⟩ | skip)) | (refine WL.cond ?_; (conv => { arg 1; simp (disch := omega) [if_pos, if_neg, fr, h0] }); (first | with_reducible refine condT ?_ | with_reducible refine condF ?_ | with_reducible refine condPT (by omega) ?_ | with_reducible refine condPF (by omega) ?_))))
      refine ⟨[], ?_⟩
      simp (disch := omega) [if_pos, if_neg, wh, ws]
    · unfold qv; rw [h0, Rat.mkRat_zero]
      simp [zv, zs, val]
  · refine ⟨neg, n, d, ?_, hn, hd, by omega, rfl, by omega, by omega⟩
    refine CallOk.of_wl Tryz.func79 rfl rfl rfl (Nat.le_of_ble_eq_true rfl) ?_
    (repeat (first | with_reducible refine WL.seq ?_ | with_reducible refine WL.skip ?_ | with_reducible refine WL.label ?_ | with_reducible refine WL.block ?_ | with_reducible refine WL.scope ?_ | with_reducible refine WL.nilS ?_ | with_reducible refine WL.reS ?_ | with_reducible refine WL.exS ?_ | with_reducible refine WL.nilB ?_ | with_reducible refine WL.nilT ?_ | with_reducible refine WL.exit ?_ | with_reducible refine WL.ret ?_ | with_reducible refine WL.exT ?_ | with_reducible refine WL.exB ?_ | with_reducible refine WL.exN rfl ?_ | with_reducible refine WL.reT ?_ | with_reducible refine WL.reB ?_ | ((first | refine WL.reg rfl ?_ | refine WL.regT mixed rfl ?_); (conv => { arg 3; simp [prep, prep1] }); (repeat (first | (refine runK_go ?_ ?_; (focus (simp; done)); (conv => { arg 4; simp (disch := omega) [if_pos, if_neg, fr, h0] }); (first | refine contK_val ?_ | (refine contK_go ?_; (conv => { arg 5; simp })))) | (refine skip_val rfl ?_ ?_; (focus (simp; done))) | (refine runK_go ?_ ?_; (focus (simp; done)); (conv => { arg 4; simp (disch := omega) [if_pos, if_neg, fr, h0] }); refine callU true rfl rfl ⟨_, Tryz.func119, rfl, rfl⟩ ?_; (conv => { arg 6; simp (disch := omega) [if_pos, if_neg, fr, h0] }); refine callC_go (c1) rfl ?_; (conv => { arg 5; simp (disch := omega) [if_pos, if_neg, fr, h0] })))); with_reducible refine runK_nil ?_; (first | refine ⟨rfl, ?_⟩ | refine ⟨by simp [quietB], by simp [quietU], ?_⟩ | skip)) | (refine WL.cond ?_; (conv => { arg 1; simp (disch := omega) [if_pos, if_neg, fr, h0] }); (first | with_reducible refine condT ?_ | with_reducible refine condF ?_ | with_reducible refine condPT (by omega) ?_ | with_reducible refine condPF (by omega) ?_))))
    refine ⟨[], ?_⟩
    simp (disch := omega) [if_pos, if_neg, wh]

theorem zs_div (s : Bool) (n g : Nat) (hg : g ∣ n) : zs s n / (g : Int) = zs s (n / g) := by
  cases s
  · simp [zs]
  · simp only [zs, if_true]
    obtain ⟨k, rfl⟩ := hg
    rcases Nat.eq_zero_or_pos g with rfl | h
    · simp
    · rw [Nat.mul_div_cancel_left _ h]
      have : (-((g * k : Nat) : Int)) = (g : Int) * (-(k : Int)) := by simp [Int.mul_neg]
      rw [this, Int.mul_ediv_cancel_left _ (by omega)]
theorem frQ_mk (s : Bool) (n d : Nat) (hd : d ≠ 0) : frQ (mkRat (zs s n) d) = fr (decide (zs s (n / Nat.gcd n d) < 0)) (nw (n / Nat.gcd n d)) (nw (d / Nat.gcd n d)) := by
  unfold frQ
  rw [Rat.num_mkRat, Rat.den_mkRat, if_neg hd, if_neg hd, zs_abs, Nat.gcd_comm d n, zs_div _ _ _ (Nat.gcd_dvd_left n d), zs_abs]

theorem fracCancel (s : Bool) (N D : List Nat) (hN : wf N) (hD : wf D) (h0 : 0 < val D) (hlN : N.length ≤ 274877906944) (hlD : D.length ≤ 274877906944) :
    CallOk Tryz.prog 81 [wh s N, wl D] [] (frQ (mkRat (zv s N) (val D))) [] := by
  have c1 := commonCancel N D hN hD hlN hlD h0
  have hl1 : (nw (val N / Nat.gcd (val N) (val D))).length ≤ 1099511627776 := by
    have h1 := nw_len_mono (Nat.div_le_self (val N) (Nat.gcd (val N) (val D)))
    have h2 := nw_norm_len hN
    omega
  have c2 := wholeNorm s (nw (val N / Nat.gcd (val N) (val D))) (wf_nw _) hl1
  unfold zv at c2 ⊢
  rw [val_nw] at c2
  rw [frQ_mk _ _ _ (by omega)]
  generalize val N / Nat.gcd (val N) (val D) = N' at *
  generalize val D / Nat.gcd (val N) (val D) = D' at *
  have e : whZ (zs s N') = wh (decide (zs s N' < 0)) (nw N') := by unfold whZ; rw [zs_abs]
  rw [e] at c2
  generalize decide (zs s N' < 0) = s' at *
  refine CallOk.of_wl Tryz.func81 rfl rfl rfl (Nat.le_of_ble_eq_true rfl) ?_
  (repeat (first | with_reducible refine WL.seq ?_ | with_reducible refine WL.skip ?_ | with_reducible refine WL.label ?_ | with_reducible refine WL.block ?_ | with_reducible refine WL.scope ?_ | with_reducible refine WL.nilS ?_ | with_reducible refine WL.reS ?_ | with_reducible refine WL.exS ?_ | with_reducible refine WL.nilB ?_ | with_reducible refine WL.nilT ?_ | with_reducible refine WL.exit ?_ | with_reducible refine WL.ret ?_ | with_reducible refine WL.exT ?_ | with_reducible refine WL.exB ?_ | with_reducible refine WL.exN rfl ?_ | with_reducible refine WL.reT ?_ | with_reducible refine WL.reB ?_ | ((first | refine WL.reg rfl ?_ | refine WL.regT mixed rfl ?_); (conv => { arg 3; simp [prep, prep1] }); (repeat (first | (refine runK_go ?_ ?_; (focus (simp; done)); (conv => { arg 4; simp (disch := omega) [if_pos, if_neg, wh] }); (first | refine contK_val ?_ | (refine contK_go ?_; (conv => { arg 5; simp })))) | (refine skip_val rfl ?_ ?_; (focus (simp; done))) | (refine runK_go ?_ ?_; (focus (simp; done)); (conv => { arg 4; simp (disch := omega) [if_pos, if_neg, wh] }); refine callU true rfl rfl ⟨_, Tryz.func120, rfl, rfl⟩ ?_; (conv => { arg 6; simp (disch := omega) [if_pos, if_neg, wh] }); refine callC_go (c1) rfl ?_; (conv => { arg 5; simp (disch := omega) [if_pos, if_neg, wh] })) | (refine runK_go ?_ ?_; (focus (simp; done)); (conv => { arg 4; simp (disch := omega) [if_pos, if_neg, wh] }); refine callU true rfl rfl ⟨_, Tryz.func121, rfl, rfl⟩ ?_; (conv => { arg 6; simp (disch := omega) [if_pos, if_neg, wh] }); refine callC_go (c2) rfl ?_; (conv => { arg 5; simp (disch := omega) [if_pos, if_neg, wh] })))); with_reducible refine runK_nil ?_; (first | refine ⟨rfl, ?_⟩ | refine ⟨by simp [quietB], by simp [quietU], ?_⟩ | skip)) | (refine WL.cond ?_; (conv => { arg 1; simp (disch := omega) [if_pos, if_neg, wh] }); (first | with_reducible refine condT ?_ | with_reducible refine condF ?_ | with_reducible refine condPT (by omega) ?_ | with_reducible refine condPF (by omega) ?_))))
  refine ⟨[], ?_⟩
  simp (disch := omega) [if_pos, if_neg, fr]

theorem fracCross (s : Bool) (N D : List Nat) (hN : wf N) (hD : wf D) (hl : N.length + D.length ≤ 274877906944) : CallOk Tryz.prog 83 [wh s N, wl D] [] (whZ (zv s N * val D)) [] := by
  have c1 := wholeMul s false N D hN hD hl
  have e : zv false D = val D := by simp [zv, zs]
  rw [e] at c1
  generalize zv s N * val D = z at *
  refine CallOk.of_wl Tryz.func83 rfl rfl rfl (Nat.le_of_ble_eq_true rfl) ?_
  (repeat (first | with_reducible refine WL.seq ?_ | with_reducible refine WL.skip ?_ | with_reducible refine WL.label ?_ | with_reducible refine WL.block ?_ | with_reducible refine WL.scope ?_ | with_reducible refine WL.nilS ?_ | with_reducible refine WL.reS ?_ | with_reducible refine WL.exS ?_ | with_reducible refine WL.nilB ?_ | with_reducible refine WL.nilT ?_ | with_reducible refine WL.exit ?_ | with_reducible refine WL.ret ?_ | with_reducible refine WL.exT ?_ | with_reducible refine WL.exB ?_ | with_reducible refine WL.exN rfl ?_ | with_reducible refine WL.reT ?_ | with_reducible refine WL.reB ?_ | ((first | refine WL.reg rfl ?_ | refine WL.regT mixed rfl ?_); (conv => { arg 3; simp [prep, prep1] }); (repeat (first | (refine runK_go ?_ ?_; (focus (simp; done)); (conv => { arg 4; simp (disch := omega) [if_pos, if_neg, wh] }); (first | refine contK_val ?_ | (refine contK_go ?_; (conv => { arg 5; simp })))) | (refine skip_val rfl ?_ ?_; (focus (simp; done))) | (refine runK_go ?_ ?_; (focus (simp; done)); (conv => { arg 4; simp (disch := omega) [if_pos, if_neg, wh] }); refine callU true rfl rfl ⟨_, Tryz.func98, rfl, rfl⟩ ?_; (conv => { arg 6; simp (disch := omega) [if_pos, if_neg, wh] }); refine callC_go (c1) rfl ?_; (conv => { arg 5; simp (disch := omega) [if_pos, if_neg, wh] })))); with_reducible refine runK_nil ?_; (first | refine ⟨rfl, ?_⟩ | refine ⟨by simp [quietB], by simp [quietU], ?_⟩ | skip)) | (refine WL.cond ?_; (conv => { arg 1; simp (disch := omega) [if_pos, if_neg, wh] }); (first | with_reducible refine condT ?_ | with_reducible refine condF ?_ | with_reducible refine condPT (by omega) ?_ | with_reducible refine condPF (by omega) ?_))))
  refine ⟨[], ?_⟩
  simp (disch := omega) [if_pos, if_neg, whZ, wh]
end Go.Proofs.YthgldcflcmlgpaaGreatDoorE
end

section
/- Sum, difference, product of fractions. -/
-- x3
set_option linter.unusedVariables false
set_option linter.unusedSimpArgs false
namespace Go.Proofs.YthgldcflcmlgpaaGreatDoorE
open Go.RowKit
set_option maxRecDepth 100000
attribute [local simp] List.getElem?_cons_zero List.getElem?_cons_succ List.getElem?_nil wrap_i64 stOf st0 effF effC evalV evalL upd_n updI_n pv_t pv_c pv_g pv_f ofConst binV binI lenV foldV mx2 mn2 unV convV extractV idxV indexV fieldAddrV fieldV partV sliceV boundsV loadL live storeE appendE srcV litE makeE IntKind.bits copyE boxE allocE flatParts flatCs flatC allParts cellsOf solid leafB fillL frzL buildV fillP placeS eqFl eqCell St.eff St.put wrs callE renP renA renC renI nid newL renB noEff endK endR resA resL resV expP expA expC expN expL expBs expB idx thenQ blockQ wantK wrap_u32 wrap_u64_in beqI bneI w32 wl fdiv_pos Int.natCast_inj

theorem nw_lt (n : Nat) : n < 4294967296 ^ (nw n).length := by
  have := val_lt (wf_nw n); rwa [val_nw] at this
theorem len_mul (a b : Nat) : (nw (a * b)).length ≤ (nw a).length + (nw b).length := nw_len_le (by
  rw [Nat.pow_add]; exact Nat.mul_lt_mul'' (nw_lt a) (nw_lt b))
theorem len_add (a b : Nat) : (nw (a + b)).length ≤ max (nw a).length (nw b).length + 1 := nw_len_le (by
  have h1 : a < 4294967296 ^ max (nw a).length (nw b).length := Nat.lt_of_lt_of_le (nw_lt a) (Nat.pow_le_pow_right (by decide) (Nat.le_max_left _ _))
  have h2 : b < 4294967296 ^ max (nw a).length (nw b).length := Nat.lt_of_lt_of_le (nw_lt b) (Nat.pow_le_pow_right (by decide) (Nat.le_max_right _ _))
  rw [Nat.pow_succ]
  generalize 4294967296 ^ max (nw a).length (nw b).length = P at *
  omega)
theorem lenZ_add (x y : Int) : (nw (x + y).natAbs).length ≤ max (nw x.natAbs).length (nw y.natAbs).length + 1 :=
  Nat.le_trans (nw_len_mono (Int.natAbs_add_le x y)) (len_add _ _)
theorem lenZ_cross (s : Bool) (N E : List Nat) (hN : wf N) (hE : wf E) : (nw (zv s N * val E).natAbs).length ≤ N.length + E.length := by
  rw [Int.natAbs_mul, zv_abs, Int.natAbs_natCast]
  have h1 := len_mul (val N) (val E)
  have h2 := nw_norm_len hN
  have h3 := nw_norm_len hE
  omega
theorem lenV_mul (N E : List Nat) (hN : wf N) (hE : wf E) : (nw (val N * val E)).length ≤ N.length + E.length := by
  have h1 := len_mul (val N) (val E)
  have h2 := nw_norm_len hN
  have h3 := nw_norm_len hE
  omega

theorem wholeAddZ (x y : Int) (hx : (nw x.natAbs).length ≤ 274877906944) (hy : (nw y.natAbs).length ≤ 274877906944) : CallOk Tryz.prog 82 [whZ x, whZ y] [] (whZ (x + y)) [] := by
  have := wholeAdd (decide (x < 0)) (decide (y < 0)) _ _ (wf_nw x.natAbs) (wf_nw y.natAbs) hx hy
  rwa [zv_nw, zv_nw] at this
theorem wholeSubZ (x y : Int) (hx : (nw x.natAbs).length ≤ 274877906944) (hy : (nw y.natAbs).length ≤ 274877906944) : CallOk Tryz.prog 151 [whZ x, whZ y] [] (whZ (x - y)) [] := by
  have := wholeSub (decide (x < 0)) (decide (y < 0)) _ _ (wf_nw x.natAbs) (wf_nw y.natAbs) hx hy
  rwa [zv_nw, zv_nw] at this
theorem wholeCmpZ (x y : Int) (hx : (nw x.natAbs).length ≤ 274877906944) (hy : (nw y.natAbs).length ≤ 274877906944) : CallOk Tryz.prog 100 [whZ x, whZ y] [] (.int .i64 (sgn (x - y))) [] := by
  have := wholeCmp (decide (x < 0)) (decide (y < 0)) _ _ (wf_nw x.natAbs) (wf_nw y.natAbs) hx hy
  rwa [zv_nw, zv_nw] at this
theorem fracCancelZ (z : Int) (d : Nat) (h0 : 0 < d) (hx : (nw z.natAbs).length ≤ 274877906944) (hy : (nw d).length ≤ 274877906944) : CallOk Tryz.prog 81 [whZ z, wl (nw d)] [] (frQ (mkRat z d)) [] := by
  have := fracCancel (decide (z < 0)) _ _ (wf_nw z.natAbs) (wf_nw d) (by rw [val_nw]; exact h0) hx hy
  rwa [zv_nw, val_nw] at this

theorem fracAdd (sa sb : Bool) (na da nb db : List Nat) (h1 : wf na) (h2 : wf da) (h3 : wf nb) (h4 : wf db) (l1 : na.length ≤ 68719476736) (l2 : da.length ≤ 68719476736) (l3 : nb.length ≤ 68719476736) (l4 : db.length ≤ 68719476736) :
    CallOk Tryz.prog 29 [fr sa na da, fr sb nb db] [] (frQ (qv sa na da + qv sb nb db)) [] := by
  obtain ⟨s, N, D, c1, p1⟩ := fracParts sa na da h1 h2 (by omega)
  obtain ⟨t, M, E, c2, p2⟩ := fracParts sb nb db h3 h4 (by omega)
  obtain ⟨wN, wD, hD, hv1, lN, lD⟩ := p1
  obtain ⟨wM, wE, hE, hv2, lM, lE⟩ := p2
  have c3 := fracCross s N E wN wE (by omega)
  have c4 := fracCross t M D wM wD (by omega)
  have k1 := lenZ_cross s N E wN wE
  have k2 := lenZ_cross t M D wM wD
  have c5 := wholeAddZ (zv s N * val E) (zv t M * val D) (by omega) (by omega)
  have k3 := lenZ_add (zv s N * val E) (zv t M * val D)
  have c6 := prodMul D E wD wE (by omega)
  have k4 := lenV_mul D E wD wE
  have c7 := fracCancelZ (zv s N * val E + zv t M * val D) (val D * val E) (Nat.mul_pos hD hE) (by omega) (by omega)
  rw [← Rat.mkRat_add_mkRat _ _ (by omega) (by omega), ← hv1, ← hv2] at c7
  generalize qv sa na da + qv sb nb db = q at *
  generalize zv s N * val E + zv t M * val D = z3 at *
  generalize zv s N * val E = z1 at *
  generalize zv t M * val D = z2 at *
  generalize val D * val E = de at *
  refine CallOk.of_wl Tryz.func29 rfl rfl rfl (Nat.le_of_ble_eq_true rfl) ?_
  (repeat (first | with_reducible refine WL.seq ?_ | with_reducible refine WL.skip ?_ | with_reducible refine WL.label ?_ | with_reducible refine WL.block ?_ | with_reducible refine WL.scope ?_ | with_reducible refine WL.nilS ?_ | with_reducible refine WL.reS ?_ | with_reducible refine WL.exS ?_ | with_reducible refine WL.nilB ?_ | with_reducible refine WL.nilT ?_ | with_reducible refine WL.exit ?_ | with_reducible refine WL.ret ?_ | with_reducible refine WL.exT ?_ | with_reducible refine WL.exB ?_ | with_reducible refine WL.exN rfl ?_ | with_reducible refine WL.reT ?_ | with_reducible refine WL.reB ?_ | ((first | refine WL.reg rfl ?_ | refine WL.regT mixed rfl ?_); (conv => { arg 3; simp [prep, prep1] }); (repeat (first | (refine runK_go ?_ ?_; (focus (simp; done)); (conv => { arg 4; simp (disch := omega) [if_pos, if_neg, fr, wh, whZ, frQ] }); (first | refine contK_val ?_ | (refine contK_go ?_; (conv => { arg 5; simp })))) | (refine skip_val rfl ?_ ?_; (focus (simp; done))) | (refine runK_go ?_ ?_; (focus (simp; done)); (conv => { arg 4; simp (disch := omega) [if_pos, if_neg, fr, wh, whZ, frQ] }); refine callU true rfl rfl ⟨_, Tryz.func79, rfl, rfl⟩ ?_; (conv => { arg 6; simp (disch := omega) [if_pos, if_neg, fr, wh, whZ, frQ] }); refine callC_go (c1) rfl ?_; (conv => { arg 5; simp (disch := omega) [if_pos, if_neg, fr, wh, whZ, frQ] })) | (refine runK_go ?_ ?_; (focus (simp; done)); (conv => { arg 4; simp (disch := omega) [if_pos, if_neg, fr, wh, whZ, frQ] }); refine callU true rfl rfl ⟨_, Tryz.func79, rfl, rfl⟩ ?_; (conv => { arg 6; simp (disch := omega) [if_pos, if_neg, fr, wh, whZ, frQ] }); refine callC_go (c2) rfl ?_; (conv => { arg 5; simp (disch := omega) [if_pos, if_neg, fr, wh, whZ, frQ] })) | (refine runK_go ?_ ?_; (focus (simp; done)); (conv => { arg 4; simp (disch := omega) [if_pos, if_neg, fr, wh, whZ, frQ] }); refine callU true rfl rfl ⟨_, Tryz.func83, rfl, rfl⟩ ?_; (conv => { arg 6; simp (disch := omega) [if_pos, if_neg, fr, wh, whZ, frQ] }); refine callC_go (c3) rfl ?_; (conv => { arg 5; simp (disch := omega) [if_pos, if_neg, fr, wh, whZ, frQ] })) | (refine runK_go ?_ ?_; (focus (simp; done)); (conv => { arg 4; simp (disch := omega) [if_pos, if_neg, fr, wh, whZ, frQ] }); refine callU true rfl rfl ⟨_, Tryz.func83, rfl, rfl⟩ ?_; (conv => { arg 6; simp (disch := omega) [if_pos, if_neg, fr, wh, whZ, frQ] }); refine callC_go (c4) rfl ?_; (conv => { arg 5; simp (disch := omega) [if_pos, if_neg, fr, wh, whZ, frQ] })) | (refine runK_go ?_ ?_; (focus (simp; done)); (conv => { arg 4; simp (disch := omega) [if_pos, if_neg, fr, wh, whZ, frQ] }); refine callU true rfl rfl ⟨_, Tryz.func82, rfl, rfl⟩ ?_; (conv => { arg 6; simp (disch := omega) [if_pos, if_neg, fr, wh, whZ, frQ] }); refine callC_go (c5) rfl ?_; (conv => { arg 5; simp (disch := omega) [if_pos, if_neg, fr, wh, whZ, frQ] })) | (refine runK_go ?_ ?_; (focus (simp; done)); (conv => { arg 4; simp (disch := omega) [if_pos, if_neg, fr, wh, whZ, frQ] }); refine callU true rfl rfl ⟨_, Tryz.func84, rfl, rfl⟩ ?_; (conv => { arg 6; simp (disch := omega) [if_pos, if_neg, fr, wh, whZ, frQ] }); refine callC_go (c6) rfl ?_; (conv => { arg 5; simp (disch := omega) [if_pos, if_neg, fr, wh, whZ, frQ] })) | (refine runK_go ?_ ?_; (focus (simp; done)); (conv => { arg 4; simp (disch := omega) [if_pos, if_neg, fr, wh, whZ, frQ] }); refine callU true rfl rfl ⟨_, Tryz.func81, rfl, rfl⟩ ?_; (conv => { arg 6; simp (disch := omega) [if_pos, if_neg, fr, wh, whZ, frQ] }); refine callC_go (c7) rfl ?_; (conv => { arg 5; simp (disch := omega) [if_pos, if_neg, fr, wh, whZ, frQ] })))); with_reducible refine runK_nil ?_; (first | refine ⟨rfl, ?_⟩ | refine ⟨by simp [quietB], by simp [quietU], ?_⟩ | skip)) | (refine WL.cond ?_; (conv => { arg 1; simp (disch := omega) [if_pos, if_neg, fr, wh, whZ, frQ] }); (first | with_reducible refine condT ?_ | with_reducible refine condF ?_ | with_reducible refine condPT (by omega) ?_ | with_reducible refine condPF (by omega) ?_))))
  refine ⟨[], ?_⟩
  simp (disch := omega) [if_pos, if_neg, frQ, fr]
end Go.Proofs.YthgldcflcmlgpaaGreatDoorE
end

section
/- Fractions: difference, product, order. -/
-- x3
set_option linter.unusedVariables false
set_option linter.unusedSimpArgs false
namespace Go.Proofs.YthgldcflcmlgpaaGreatDoorE
open Go.RowKit
set_option maxRecDepth 100000
attribute [local simp] List.getElem?_cons_zero List.getElem?_cons_succ List.getElem?_nil wrap_i64 stOf st0 effF effC evalV evalL upd_n updI_n pv_t pv_c pv_g pv_f ofConst binV binI lenV foldV mx2 mn2 unV convV extractV idxV indexV fieldAddrV fieldV partV sliceV boundsV loadL live storeE appendE srcV litE makeE IntKind.bits copyE boxE allocE flatParts flatCs flatC allParts cellsOf solid leafB fillL frzL buildV fillP placeS eqFl eqCell St.eff St.put wrs callE renP renA renC renI nid newL renB noEff endK endR resA resL resV expP expA expC expN expL expBs expB idx thenQ blockQ wantK wrap_u32 wrap_u64_in beqI bneI w32 wl fdiv_pos Int.natCast_inj

theorem fracSub (sa sb : Bool) (na da nb db : List Nat) (h1 : wf na) (h2 : wf da) (h3 : wf nb) (h4 : wf db) (l1 : na.length ≤ 68719476736) (l2 : da.length ≤ 68719476736) (l3 : nb.length ≤ 68719476736) (l4 : db.length ≤ 68719476736) :
    CallOk Tryz.prog 107 [fr sa na da, fr sb nb db] [] (frQ (qv sa na da - qv sb nb db)) [] := by
  obtain ⟨s, N, D, c1, p1⟩ := fracParts sa na da h1 h2 (by omega)
  obtain ⟨t, M, E, c2, p2⟩ := fracParts sb nb db h3 h4 (by omega)
  obtain ⟨wN, wD, hD, hv1, lN, lD⟩ := p1
  obtain ⟨wM, wE, hE, hv2, lM, lE⟩ := p2
  have c3 := fracCross s N E wN wE (by omega)
  have c4 := fracCross t M D wM wD (by omega)
  have k1 := lenZ_cross s N E wN wE
  have k2 := lenZ_cross t M D wM wD
  have c5 := wholeSubZ (zv s N * val E) (zv t M * val D) (by omega) (by omega)
  have k3 := lenZ_add (zv s N * val E) (-(zv t M * val D))
  rw [Int.natAbs_neg, ← Int.sub_eq_add_neg] at k3
  have c6 := prodMul D E wD wE (by omega)
  have k4 := lenV_mul D E wD wE
  have c7 := fracCancelZ (zv s N * val E - zv t M * val D) (val D * val E) (Nat.mul_pos hD hE) (by omega) (by omega)
  have e : mkRat (zv s N * val E - zv t M * val D) (val D * val E) = qv sa na da - qv sb nb db := by
    rw [hv1, hv2, Rat.sub_eq_add_neg, Rat.neg_mkRat, Rat.mkRat_add_mkRat _ _ (by omega) (by omega), Int.neg_mul, ← Int.sub_eq_add_neg]
  rw [e] at c7
  generalize qv sa na da - qv sb nb db = q at *
  generalize zv s N * val E - zv t M * val D = z3 at *
  generalize zv s N * val E = z1 at *
  generalize zv t M * val D = z2 at *
  generalize val D * val E = de at *
  refine CallOk.of_wl Tryz.func107 rfl rfl rfl (Nat.le_of_ble_eq_true rfl) ?_
  (repeat (first | with_reducible refine WL.seq ?_ | with_reducible refine WL.skip ?_ | with_reducible refine WL.label ?_ | with_reducible refine WL.block ?_ | with_reducible refine WL.scope ?_ | with_reducible refine WL.nilS ?_ | with_reducible refine WL.reS ?_ | with_reducible refine WL.exS ?_ | with_reducible refine WL.nilB ?_ | with_reducible refine WL.nilT ?_ | with_reducible refine WL.exit ?_ | with_reducible refine WL.ret ?_ | with_reducible refine WL.exT ?_ | with_reducible refine WL.exB ?_ | with_reducible refine WL.exN rfl ?_ | with_reducible refine WL.reT ?_ | with_reducible refine WL.reB ?_ | ((first | refine WL.reg rfl ?_ | refine WL.regT mixed rfl ?_); (conv => { arg 3; simp [prep, prep1] }); (repeat (first | (refine runK_go ?_ ?_; (focus (simp; done)); (conv => { arg 4; simp (disch := omega) [if_pos, if_neg, fr, wh, whZ, frQ] }); (first | refine contK_val ?_ | (refine contK_go ?_; (conv => { arg 5; simp })))) | (refine skip_val rfl ?_ ?_; (focus (simp; done))) | (refine runK_go ?_ ?_; (focus (simp; done)); (conv => { arg 4; simp (disch := omega) [if_pos, if_neg, fr, wh, whZ, frQ] }); refine callU true rfl rfl ⟨_, Tryz.func79, rfl, rfl⟩ ?_; (conv => { arg 6; simp (disch := omega) [if_pos, if_neg, fr, wh, whZ, frQ] }); refine callC_go (c1) rfl ?_; (conv => { arg 5; simp (disch := omega) [if_pos, if_neg, fr, wh, whZ, frQ] })) | (refine runK_go ?_ ?_; (focus (simp; done)); (conv => { arg 4; simp (disch := omega) [if_pos, if_neg, fr, wh, whZ, frQ] }); refine callU true rfl rfl ⟨_, Tryz.func79, rfl, rfl⟩ ?_; (conv => { arg 6; simp (disch := omega) [if_pos, if_neg, fr, wh, whZ, frQ] }); refine callC_go (c2) rfl ?_; (conv => { arg 5; simp (disch := omega) [if_pos, if_neg, fr, wh, whZ, frQ] })) | (refine runK_go ?_ ?_; (focus (simp; done)); (conv => { arg 4; simp (disch := omega) [if_pos, if_neg, fr, wh, whZ, frQ] }); refine callU true rfl rfl ⟨_, Tryz.func83, rfl, rfl⟩ ?_; (conv => { arg 6; simp (disch := omega) [if_pos, if_neg, fr, wh, whZ, frQ] }); refine callC_go (c3) rfl ?_; (conv => { arg 5; simp (disch := omega) [if_pos, if_neg, fr, wh, whZ, frQ] })) | (refine runK_go ?_ ?_; (focus (simp; done)); (conv => { arg 4; simp (disch := omega) [if_pos, if_neg, fr, wh, whZ, frQ] }); refine callU true rfl rfl ⟨_, Tryz.func83, rfl, rfl⟩ ?_; (conv => { arg 6; simp (disch := omega) [if_pos, if_neg, fr, wh, whZ, frQ] }); refine callC_go (c4) rfl ?_; (conv => { arg 5; simp (disch := omega) [if_pos, if_neg, fr, wh, whZ, frQ] })) | (refine runK_go ?_ ?_; (focus (simp; done)); (conv => { arg 4; simp (disch := omega) [if_pos, if_neg, fr, wh, whZ, frQ] }); refine callU true rfl rfl ⟨_, Tryz.func151, rfl, rfl⟩ ?_; (conv => { arg 6; simp (disch := omega) [if_pos, if_neg, fr, wh, whZ, frQ] }); refine callC_go (c5) rfl ?_; (conv => { arg 5; simp (disch := omega) [if_pos, if_neg, fr, wh, whZ, frQ] })) | (refine runK_go ?_ ?_; (focus (simp; done)); (conv => { arg 4; simp (disch := omega) [if_pos, if_neg, fr, wh, whZ, frQ] }); refine callU true rfl rfl ⟨_, Tryz.func84, rfl, rfl⟩ ?_; (conv => { arg 6; simp (disch := omega) [if_pos, if_neg, fr, wh, whZ, frQ] }); refine callC_go (c6) rfl ?_; (conv => { arg 5; simp (disch := omega) [if_pos, if_neg, fr, wh, whZ, frQ] })) | (refine runK_go ?_ ?_; (focus (simp; done)); (conv => { arg 4; simp (disch := omega) [if_pos, if_neg, fr, wh, whZ, frQ] }); refine callU true rfl rfl ⟨_, Tryz.func81, rfl, rfl⟩ ?_; (conv => { arg 6; simp (disch := omega) [if_pos, if_neg, fr, wh, whZ, frQ] }); refine callC_go (c7) rfl ?_; (conv => { arg 5; simp (disch := omega) [if_pos, if_neg, fr, wh, whZ, frQ] })))); with_reducible refine runK_nil ?_; (first | refine ⟨rfl, ?_⟩ | refine ⟨by simp [quietB], by simp [quietU], ?_⟩ | skip)) | (refine WL.cond ?_; (conv => { arg 1; simp (disch := omega) [if_pos, if_neg, fr, wh, whZ, frQ] }); (first | with_reducible refine condT ?_ | with_reducible refine condF ?_ | with_reducible refine condPT (by omega) ?_ | with_reducible refine condPF (by omega) ?_))))
  refine ⟨[], ?_⟩
  simp (disch := omega) [if_pos, if_neg, frQ, fr]

theorem fracMul (sa sb : Bool) (na da nb db : List Nat) (h1 : wf na) (h2 : wf da) (h3 : wf nb) (h4 : wf db) (l1 : na.length ≤ 68719476736) (l2 : da.length ≤ 68719476736) (l3 : nb.length ≤ 68719476736) (l4 : db.length ≤ 68719476736) :
    CallOk Tryz.prog 50 [fr sa na da, fr sb nb db] [] (frQ (qv sa na da * qv sb nb db)) [] := by
  obtain ⟨s, N, D, c1, p1⟩ := fracParts sa na da h1 h2 (by omega)
  obtain ⟨t, M, E, c2, p2⟩ := fracParts sb nb db h3 h4 (by omega)
  obtain ⟨wN, wD, hD, hv1, lN, lD⟩ := p1
  obtain ⟨wM, wE, hE, hv2, lM, lE⟩ := p2
  have c5 := wholeMul s t N M wN wM (by omega)
  have k3 : (nw (zv s N * zv t M).natAbs).length ≤ N.length + M.length := by
    rw [Int.natAbs_mul, zv_abs, zv_abs]
    exact lenV_mul N M wN wM
  have c6 := prodMul D E wD wE (by omega)
  have k4 := lenV_mul D E wD wE
  have c7 := fracCancelZ (zv s N * zv t M) (val D * val E) (Nat.mul_pos hD hE) (by omega) (by omega)
  rw [← Rat.mkRat_mul_mkRat, ← hv1, ← hv2] at c7
  generalize qv sa na da * qv sb nb db = q at *
  generalize zv s N * zv t M = z3 at *
  generalize val D * val E = de at *
  refine CallOk.of_wl Tryz.func50 rfl rfl rfl (Nat.le_of_ble_eq_true rfl) ?_
  (repeat (first | with_reducible refine WL.seq ?_ | with_reducible refine WL.skip ?_ | with_reducible refine WL.label ?_ | with_reducible refine WL.block ?_ | with_reducible refine WL.scope ?_ | with_reducible refine WL.nilS ?_ | with_reducible refine WL.reS ?_ | with_reducible refine WL.exS ?_ | with_reducible refine WL.nilB ?_ | with_reducible refine WL.nilT ?_ | with_reducible refine WL.exit ?_ | with_reducible refine WL.ret ?_ | with_reducible refine WL.exT ?_ | with_reducible refine WL.exB ?_ | with_reducible refine WL.exN rfl ?_ | with_reducible refine WL.reT ?_ | with_reducible refine WL.reB ?_ | ((first | refine WL.reg rfl ?_ | refine WL.regT mixed rfl ?_); (conv => { arg 3; simp [prep, prep1] }); (repeat (first | (refine runK_go ?_ ?_; (focus (simp; done)); (conv => { arg 4; simp (disch := omega) [if_pos, if_neg, fr, wh, whZ, frQ] }); (first | refine contK_val ?_ | (refine contK_go ?_; (conv => { arg 5; simp })))) | (refine skip_val rfl ?_ ?_; (focus (simp; done))) | (refine runK_go ?_ ?_; (focus (simp; done)); (conv => { arg 4; simp (disch := omega) [if_pos, if_neg, fr, wh, whZ, frQ] }); refine callU true rfl rfl ⟨_, Tryz.func79, rfl, rfl⟩ ?_; (conv => { arg 6; simp (disch := omega) [if_pos, if_neg, fr, wh, whZ, frQ] }); refine callC_go (c1) rfl ?_; (conv => { arg 5; simp (disch := omega) [if_pos, if_neg, fr, wh, whZ, frQ] })) | (refine runK_go ?_ ?_; (focus (simp; done)); (conv => { arg 4; simp (disch := omega) [if_pos, if_neg, fr, wh, whZ, frQ] }); refine callU true rfl rfl ⟨_, Tryz.func79, rfl, rfl⟩ ?_; (conv => { arg 6; simp (disch := omega) [if_pos, if_neg, fr, wh, whZ, frQ] }); refine callC_go (c2) rfl ?_; (conv => { arg 5; simp (disch := omega) [if_pos, if_neg, fr, wh, whZ, frQ] })) | (refine runK_go ?_ ?_; (focus (simp; done)); (conv => { arg 4; simp (disch := omega) [if_pos, if_neg, fr, wh, whZ, frQ] }); refine callU true rfl rfl ⟨_, Tryz.func98, rfl, rfl⟩ ?_; (conv => { arg 6; simp (disch := omega) [if_pos, if_neg, fr, wh, whZ, frQ] }); refine callC_go (c5) rfl ?_; (conv => { arg 5; simp (disch := omega) [if_pos, if_neg, fr, wh, whZ, frQ] })) | (refine runK_go ?_ ?_; (focus (simp; done)); (conv => { arg 4; simp (disch := omega) [if_pos, if_neg, fr, wh, whZ, frQ] }); refine callU true rfl rfl ⟨_, Tryz.func84, rfl, rfl⟩ ?_; (conv => { arg 6; simp (disch := omega) [if_pos, if_neg, fr, wh, whZ, frQ] }); refine callC_go (c6) rfl ?_; (conv => { arg 5; simp (disch := omega) [if_pos, if_neg, fr, wh, whZ, frQ] })) | (refine runK_go ?_ ?_; (focus (simp; done)); (conv => { arg 4; simp (disch := omega) [if_pos, if_neg, fr, wh, whZ, frQ] }); refine callU true rfl rfl ⟨_, Tryz.func81, rfl, rfl⟩ ?_; (conv => { arg 6; simp (disch := omega) [if_pos, if_neg, fr, wh, whZ, frQ] }); refine callC_go (c7) rfl ?_; (conv => { arg 5; simp (disch := omega) [if_pos, if_neg, fr, wh, whZ, frQ] })))); with_reducible refine runK_nil ?_; (first | refine ⟨rfl, ?_⟩ | refine ⟨by simp [quietB], by simp [quietU], ?_⟩ | skip)) | (refine WL.cond ?_; (conv => { arg 1; simp (disch := omega) [if_pos, if_neg, fr, wh, whZ, frQ] }); (first | with_reducible refine condT ?_ | with_reducible refine condF ?_ | with_reducible refine condPT (by omega) ?_ | with_reducible refine condPF (by omega) ?_))))
  refine ⟨[], ?_⟩
  simp (disch := omega) [if_pos, if_neg, frQ, fr]

theorem fracNorm (sa : Bool) (na da : List Nat) (h1 : wf na) (h2 : wf da) (l1 : na.length ≤ 68719476736) (l2 : da.length ≤ 68719476736) :
    CallOk Tryz.prog 78 [fr sa na da] [] (frQ (qv sa na da)) [] := by
  obtain ⟨s, N, D, c1, p1⟩ := fracParts sa na da h1 h2 (by omega)
  obtain ⟨wN, wD, hD, hv1, lN, lD⟩ := p1
  have c7 := fracCancel s N D wN wD hD (by omega) (by omega)
  rw [← hv1] at c7
  generalize qv sa na da = q at *
  refine CallOk.of_wl Tryz.func78 rfl rfl rfl (Nat.le_of_ble_eq_true rfl) ?_
  (repeat (first | with_reducible refine WL.seq ?_ | with_reducible refine WL.skip ?_ | with_reducible refine WL.label ?_ | with_reducible refine WL.block ?_ | with_reducible refine WL.scope ?_ | with_reducible refine WL.nilS ?_ | with_reducible refine WL.reS ?_ | with_reducible refine WL.exS ?_ | with_reducible refine WL.nilB ?_ | with_reducible refine WL.nilT ?_ | with_reducible refine WL.exit ?_ | with_reducible refine WL.ret ?_ | with_reducible refine WL.exT ?_ | with_reducible refine WL.exB ?_ | with_reducible refine WL.exN rfl ?_ | with_reducible refine WL.reT ?_ | with_reducible refine WL.reB ?_ | ((first | refine WL.reg rfl ?_ | refine WL.regT mixed rfl ?_); (conv => { arg 3; simp [prep, prep1] }); (repeat (first | (refine runK_go ?_ ?_; (focus (simp; done)); (conv => { arg 4; simp (disch := omega) [if_pos, if_neg, fr, wh, whZ, frQ] }); (first | refine contK_val ?_ | (refine contK_go ?_; (conv => { arg 5; simp })))) | (refine skip_val rfl ?_ ?_; (focus (simp; done))) | (refine runK_go ?_ ?_; (focus (simp; done)); (conv => { arg 4; simp (disch := omega) [if_pos, if_neg, fr, wh, whZ, frQ] }); refine callU true rfl rfl ⟨_, Tryz.func79, rfl, rfl⟩ ?_; (conv => { arg 6; simp (disch := omega) [if_pos, if_neg, fr, wh, whZ, frQ] }); refine callC_go (c1) rfl ?_; (conv => { arg 5; simp (disch := omega) [if_pos, if_neg, fr, wh, whZ, frQ] })) | (refine runK_go ?_ ?_; (focus (simp; done)); (conv => { arg 4; simp (disch := omega) [if_pos, if_neg, fr, wh, whZ, frQ] }); refine callU true rfl rfl ⟨_, Tryz.func81, rfl, rfl⟩ ?_; (conv => { arg 6; simp (disch := omega) [if_pos, if_neg, fr, wh, whZ, frQ] }); refine callC_go (c7) rfl ?_; (conv => { arg 5; simp (disch := omega) [if_pos, if_neg, fr, wh, whZ, frQ] })))); with_reducible refine runK_nil ?_; (first | refine ⟨rfl, ?_⟩ | refine ⟨by simp [quietB], by simp [quietU], ?_⟩ | skip)) | (refine WL.cond ?_; (conv => { arg 1; simp (disch := omega) [if_pos, if_neg, fr, wh, whZ, frQ] }); (first | with_reducible refine condT ?_ | with_reducible refine condF ?_ | with_reducible refine condPT (by omega) ?_ | with_reducible refine condPF (by omega) ?_))))
  refine ⟨[], ?_⟩
  simp (disch := omega) [if_pos, if_neg, frQ, fr]

/-- Which side of nought. -/
def sgnQ (q : Rat) : Int := sgn q.num
theorem sgn_mk (z : Int) (d : Nat) (hd : 0 < d) : sgn z = sgnQ (mkRat z d) := by
  unfold sgnQ
  rw [Rat.num_mkRat, if_neg (by omega)]
  have hg : 0 < Nat.gcd d z.natAbs := Nat.gcd_pos_of_pos_left _ hd
  have hdv : ((Nat.gcd d z.natAbs : Nat) : Int) ∣ z := by
    rw [Int.ofNat_dvd_left]; exact Nat.gcd_dvd_right _ _
  obtain ⟨k, hk⟩ := hdv
  generalize Nat.gcd d z.natAbs = g at *
  have hg' : (0 : Int) < g := by omega
  subst hk
  rw [Int.mul_ediv_cancel_left _ (by omega)]
  unfold sgn
  rcases Int.lt_trichotomy k 0 with h | h | h
  · have := Int.mul_neg_of_pos_of_neg hg' h
    rw [if_neg (by omega), if_pos this, if_neg (by omega), if_pos h]
  · subst h; simp
  · have := Int.mul_pos hg' h
    rw [if_neg (by omega), if_neg (by omega), if_neg (by omega), if_neg (by omega)]

theorem fracSign (sa : Bool) (na da : List Nat) (h1 : wf na) (h2 : wf da) (l1 : na.length ≤ 68719476736) (l2 : da.length ≤ 68719476736) :
    CallOk Tryz.prog 28 [fr sa na da] [] (.int .i64 (sgnQ (qv sa na da))) [] := by
  obtain ⟨s, N, D, c1, p1⟩ := fracParts sa na da h1 h2 (by omega)
  obtain ⟨wN, wD, hD, hv1, lN, lD⟩ := p1
  have c7 := wholeSign s N wN (by omega)
  rw [sgn_mk _ _ hD, ← hv1] at c7
  generalize qv sa na da = q at *
  refine CallOk.of_wl Tryz.func28 rfl rfl rfl (Nat.le_of_ble_eq_true rfl) ?_
  (repeat (first | with_reducible refine WL.seq ?_ | with_reducible refine WL.skip ?_ | with_reducible refine WL.label ?_ | with_reducible refine WL.block ?_ | with_reducible refine WL.scope ?_ | with_reducible refine WL.nilS ?_ | with_reducible refine WL.reS ?_ | with_reducible refine WL.exS ?_ | with_reducible refine WL.nilB ?_ | with_reducible refine WL.nilT ?_ | with_reducible refine WL.exit ?_ | with_reducible refine WL.ret ?_ | with_reducible refine WL.exT ?_ | with_reducible refine WL.exB ?_ | with_reducible refine WL.exN rfl ?_ | with_reducible refine WL.reT ?_ | with_reducible refine WL.reB ?_ | ((first | refine WL.reg rfl ?_ | refine WL.regT mixed rfl ?_); (conv => { arg 3; simp [prep, prep1] }); (repeat (first | (refine runK_go ?_ ?_; (focus (simp; done)); (conv => { arg 4; simp (disch := omega) [if_pos, if_neg, fr, wh, whZ, frQ] }); (first | refine contK_val ?_ | (refine contK_go ?_; (conv => { arg 5; simp })))) | (refine skip_val rfl ?_ ?_; (focus (simp; done))) | (refine runK_go ?_ ?_; (focus (simp; done)); (conv => { arg 4; simp (disch := omega) [if_pos, if_neg, fr, wh, whZ, frQ] }); refine callU true rfl rfl ⟨_, Tryz.func79, rfl, rfl⟩ ?_; (conv => { arg 6; simp (disch := omega) [if_pos, if_neg, fr, wh, whZ, frQ] }); refine callC_go (c1) rfl ?_; (conv => { arg 5; simp (disch := omega) [if_pos, if_neg, fr, wh, whZ, frQ] })) | (refine runK_go ?_ ?_; (focus (simp; done)); (conv => { arg 4; simp (disch := omega) [if_pos, if_neg, fr, wh, whZ, frQ] }); refine callU true rfl rfl ⟨_, Tryz.func80, rfl, rfl⟩ ?_; (conv => { arg 6; simp (disch := omega) [if_pos, if_neg, fr, wh, whZ, frQ] }); refine callC_go (c7) rfl ?_; (conv => { arg 5; simp (disch := omega) [if_pos, if_neg, fr, wh, whZ, frQ] })))); with_reducible refine runK_nil ?_; (first | refine ⟨rfl, ?_⟩ | refine ⟨by simp [quietB], by simp [quietU], ?_⟩ | skip)) | (refine WL.cond ?_; (conv => { arg 1; simp (disch := omega) [if_pos, if_neg, fr, wh, whZ, frQ] }); (first | with_reducible refine condT ?_ | with_reducible refine condF ?_ | with_reducible refine condPT (by omega) ?_ | with_reducible refine condPF (by omega) ?_))))
  refine ⟨[], ?_⟩
  simp (disch := omega) [if_pos, if_neg]

theorem fracCmp (sa sb : Bool) (na da nb db : List Nat) (h1 : wf na) (h2 : wf da) (h3 : wf nb) (h4 : wf db) (l1 : na.length ≤ 68719476736) (l2 : da.length ≤ 68719476736) (l3 : nb.length ≤ 68719476736) (l4 : db.length ≤ 68719476736) :
    CallOk Tryz.prog 52 [fr sa na da, fr sb nb db] [] (.int .i64 (sgnQ (qv sa na da - qv sb nb db))) [] := by
  obtain ⟨s, N, D, c1, p1⟩ := fracParts sa na da h1 h2 (by omega)
  obtain ⟨t, M, E, c2, p2⟩ := fracParts sb nb db h3 h4 (by omega)
  obtain ⟨wN, wD, hD, hv1, lN, lD⟩ := p1
  obtain ⟨wM, wE, hE, hv2, lM, lE⟩ := p2
  have c3 := fracCross s N E wN wE (by omega)
  have c4 := fracCross t M D wM wD (by omega)
  have k1 := lenZ_cross s N E wN wE
  have k2 := lenZ_cross t M D wM wD
  have c5 := wholeCmpZ (zv s N * val E) (zv t M * val D) (by omega) (by omega)
  have e : mkRat (zv s N * val E - zv t M * val D) (val D * val E) = qv sa na da - qv sb nb db := by
    rw [hv1, hv2, Rat.sub_eq_add_neg, Rat.neg_mkRat, Rat.mkRat_add_mkRat _ _ (by omega) (by omega), Int.neg_mul, ← Int.sub_eq_add_neg]
  rw [sgn_mk _ _ (Nat.mul_pos hD hE), e] at c5
  generalize qv sa na da - qv sb nb db = q at *
  generalize zv s N * val E = z1 at *
  generalize zv t M * val D = z2 at *
  refine CallOk.of_wl Tryz.func52 rfl rfl rfl (Nat.le_of_ble_eq_true rfl) ?_
  (repeat (first | with_reducible refine WL.seq ?_ | with_reducible refine WL.skip ?_ | with_reducible refine WL.label ?_ | with_reducible refine WL.block ?_ | with_reducible refine WL.scope ?_ | with_reducible refine WL.nilS ?_ | with_reducible refine WL.reS ?_ | with_reducible refine WL.exS ?_ | with_reducible refine WL.nilB ?_ | with_reducible refine WL.nilT ?_ | with_reducible refine WL.exit ?_ | with_reducible refine WL.ret ?_ | with_reducible refine WL.exT ?_ | with_reducible refine WL.exB ?_ | with_reducible refine WL.exN rfl ?_ | with_reducible refine WL.reT ?_ | with_reducible refine WL.reB ?_ | ((first | refine WL.reg rfl ?_ | refine WL.regT mixed rfl ?_); (conv => { arg 3; simp [prep, prep1] }); (repeat (first | (refine runK_go ?_ ?_; (focus (simp; done)); (conv => { arg 4; simp (disch := omega) [if_pos, if_neg, fr, wh, whZ, frQ] }); (first | refine contK_val ?_ | (refine contK_go ?_; (conv => { arg 5; simp })))) | (refine skip_val rfl ?_ ?_; (focus (simp; done))) | (refine runK_go ?_ ?_; (focus (simp; done)); (conv => { arg 4; simp (disch := omega) [if_pos, if_neg, fr, wh, whZ, frQ] }); refine callU true rfl rfl ⟨_, Tryz.func79, rfl, rfl⟩ ?_; (conv => { arg 6; simp (disch := omega) [if_pos, if_neg, fr, wh, whZ, frQ] }); refine callC_go (c1) rfl ?_; (conv => { arg 5; simp (disch := omega) [if_pos, if_neg, fr, wh, whZ, frQ] })) | (refine runK_go ?_ ?_; (focus (simp; done)); (conv => { arg 4; simp (disch := omega) [if_pos, if_neg, fr, wh, whZ, frQ] }); refine callU true rfl rfl ⟨_, Tryz.func79, rfl, rfl⟩ ?_; (conv => { arg 6; simp (disch := omega) [if_pos, if_neg, fr, wh, whZ, frQ] }); refine callC_go (c2) rfl ?_; (conv => { arg 5; simp (disch := omega) [if_pos, if_neg, fr, wh, whZ, frQ] })) | (refine runK_go ?_ ?_; (focus (simp; done)); (conv => { arg 4; simp (disch := omega) [if_pos, if_neg, fr, wh, whZ, frQ] }); refine callU true rfl rfl ⟨_, Tryz.func83, rfl, rfl⟩ ?_; (conv => { arg 6; simp (disch := omega) [if_pos, if_neg, fr, wh, whZ, frQ] }); refine callC_go (c3) rfl ?_; (conv => { arg 5; simp (disch := omega) [if_pos, if_neg, fr, wh, whZ, frQ] })) | (refine runK_go ?_ ?_; (focus (simp; done)); (conv => { arg 4; simp (disch := omega) [if_pos, if_neg, fr, wh, whZ, frQ] }); refine callU true rfl rfl ⟨_, Tryz.func83, rfl, rfl⟩ ?_; (conv => { arg 6; simp (disch := omega) [if_pos, if_neg, fr, wh, whZ, frQ] }); refine callC_go (c4) rfl ?_; (conv => { arg 5; simp (disch := omega) [if_pos, if_neg, fr, wh, whZ, frQ] })) | (refine runK_go ?_ ?_; (focus (simp; done)); (conv => { arg 4; simp (disch := omega) [if_pos, if_neg, fr, wh, whZ, frQ] }); refine callU true rfl rfl ⟨_, Tryz.func100, rfl, rfl⟩ ?_; (conv => { arg 6; simp (disch := omega) [if_pos, if_neg, fr, wh, whZ, frQ] }); refine callC_go (c5) rfl ?_; (conv => { arg 5; simp (disch := omega) [if_pos, if_neg, fr, wh, whZ, frQ] })))); with_reducible refine runK_nil ?_; (first | refine ⟨rfl, ?_⟩ | refine ⟨by simp [quietB], by simp [quietU], ?_⟩ | skip)) | (refine WL.cond ?_; (conv => { arg 1; simp (disch := omega) [if_pos, if_neg, fr, wh, whZ, frQ] }); (first | with_reducible refine condT ?_ | with_reducible refine condF ?_ | with_reducible refine condPT (by omega) ?_ | with_reducible refine condPF (by omega) ?_))))
  refine ⟨[], ?_⟩
  simp (disch := omega) [if_pos, if_neg]

theorem sgnQ_zero (q : Rat) : (decide (sgnQ q = 0)) = decide (q = 0) := by
  have : sgnQ q = 0 ↔ q = 0 := by
    rw [← Rat.num_eq_zero]
    unfold sgnQ sgn
    constructor
    · intro h
      split at h
      · assumption
      · split at h <;> simp at h
    · intro h; rw [h]; rfl
  by_cases h : q = 0
  · rw [decide_eq_true h, decide_eq_true (this.2 h)]
  · rw [decide_eq_false h, decide_eq_false (fun h' => h (this.1 h'))]
theorem sub_zero_iff (p q : Rat) : p - q = 0 ↔ p = q := by
  constructor <;> intro h <;> grind

theorem fracSame (sa sb : Bool) (na da nb db : List Nat) (h1 : wf na) (h2 : wf da) (h3 : wf nb) (h4 : wf db) (l1 : na.length ≤ 68719476736) (l2 : da.length ≤ 68719476736) (l3 : nb.length ≤ 68719476736) (l4 : db.length ≤ 68719476736) :
    CallOk Tryz.prog 49 [fr sa na da, fr sb nb db] [] (.bool (decide (qv sa na da = qv sb nb db))) [] := by
  have c1 := fracCmp sa sb na da nb db h1 h2 h3 h4 l1 l2 l3 l4
  have e := sgnQ_zero (qv sa na da - qv sb nb db)
  rw [show decide (qv sa na da - qv sb nb db = 0) = decide (qv sa na da = qv sb nb db) from decide_eq_decide.2 (sub_zero_iff _ _)] at e
  rw [← e]
  generalize sgnQ (qv sa na da - qv sb nb db) = z at *
  refine CallOk.of_wl Tryz.func49 rfl rfl rfl (Nat.le_of_ble_eq_true rfl) ?_
  (repeat (first | with_reducible refine WL.seq ?_ | with_reducible refine WL.skip ?_ | with_reducible refine WL.label ?_ | with_reducible refine WL.block ?_ | with_reducible refine WL.scope ?_ | with_reducible refine WL.nilS ?_ | with_reducible refine WL.reS ?_ | with_reducible refine WL.exS ?_ | with_reducible refine WL.nilB ?_ | with_reducible refine WL.nilT ?_ | with_reducible refine WL.exit ?_ | with_reducible refine WL.ret ?_ | with_reducible refine WL.exT ?_ | with_reducible refine WL.exB ?_ | with_reducible refine WL.exN rfl ?_ | with_reducible refine WL.reT ?_ | with_reducible refine WL.reB ?_ | ((first | refine WL.reg rfl ?_ | refine WL.regT mixed rfl ?_); (conv => { arg 3; simp [prep, prep1] }); (repeat (first | (refine runK_go ?_ ?_; (focus (simp; done)); (conv => { arg 4; simp (disch := omega) [if_pos, if_neg, fr] }); (first | refine contK_val ?_ | (refine contK_go ?_; (conv => { arg 5; simp })))) | (refine skip_val rfl ?_ ?_; (focus (simp; done))) | (refine runK_go ?_ ?_; (focus (simp; done)); (conv => { arg 4; simp (disch := omega) [if_pos, if_neg, fr] }); refine callU true rfl rfl ⟨_, Tryz.func52, rfl, rfl⟩ ?_; (conv => { arg 6; simp (disch := omega) [if_pos, if_neg, fr] }); refine callC_go (c1) rfl ?_; (conv => { arg 5; simp (disch := omega) [if_pos, if_neg, fr] })))); with_reducible refine runK_nil ?_; (first | refine ⟨rfl, ?_⟩ | refine ⟨by simp [quietB], by simp [quietU], ?_⟩ | skip)) | (refine WL.cond ?_; (conv => { arg 1; simp (disch := omega) [if_pos, if_neg, fr] }); (first | with_reducible refine condT ?_ | with_reducible refine condF ?_ | with_reducible refine condPT (by omega) ?_ | with_reducible refine condPF (by omega) ?_))))
  refine ⟨[], ?_⟩
  simp (disch := omega) [if_pos, if_neg]
end Go.Proofs.YthgldcflcmlgpaaGreatDoorE
end

section
/- Fractions: of a whole number, the other side of nought, quotient. -/
-- x3
set_option linter.unusedVariables false
set_option linter.unusedSimpArgs false
namespace Go.Proofs.YthgldcflcmlgpaaGreatDoorE
open Go.RowKit
set_option maxRecDepth 100000
attribute [local simp] List.getElem?_cons_zero List.getElem?_cons_succ List.getElem?_nil wrap_i64 stOf st0 effF effC evalV evalL upd_n updI_n pv_t pv_c pv_g pv_f ofConst binV binI lenV foldV mx2 mn2 unV convV extractV idxV indexV fieldAddrV fieldV partV sliceV boundsV loadL live storeE appendE srcV litE makeE IntKind.bits copyE boxE allocE flatParts flatCs flatC allParts cellsOf solid leafB fillL frzL buildV fillP placeS eqFl eqCell St.eff St.put wrs callE renP renA renC renI nid newL renB noEff endK endR resA resL resV expP expA expC expN expL expBs expB idx thenQ blockQ wantK wrap_u32 wrap_u64_in beqI bneI w32 wl fdiv_pos Int.natCast_inj

theorem frQ_int (n : Int) : frQ (n : Rat) = fr (decide (n < 0)) (nw n.natAbs) (nw 1) := by
  unfold frQ; rw [Rat.num_intCast, Rat.den_intCast]

theorem fracOf (n : Int) (h : -9223372036854775808 ≤ n ∧ n ≤ 9223372036854775807) : CallOk Tryz.prog 60 [.int .i64 n] [] (frQ (n : Rat)) [] := by
  have c1 := wholeOf n h
  have c2 := natOf 1 (by decide)
  rw [frQ_int]
  unfold whZ at c1
  generalize decide (n < 0) = b at *
  generalize n.natAbs = k at *
  refine CallOk.of_wl Tryz.func60 rfl rfl rfl (Nat.le_of_ble_eq_true rfl) ?_
  (repeat (first | with_reducible refine WL.seq ?_ | with_reducible refine WL.skip ?_ | with_reducible refine WL.label ?_ | with_reducible refine WL.block ?_ | with_reducible refine WL.scope ?_ | with_reducible refine WL.nilS ?_ | with_reducible refine WL.reS ?_ | with_reducible refine WL.exS ?_ | with_reducible refine WL.nilB ?_ | with_reducible refine WL.nilT ?_ | with_reducible refine WL.exit ?_ | with_reducible refine WL.ret ?_ | with_reducible refine WL.exT ?_ | with_reducible refine WL.exB ?_ | with_reducible refine WL.exN rfl ?_ | with_reducible refine WL.reT ?_ | with_reducible refine WL.reB ?_ | ((first | refine WL.reg rfl ?_ | refine WL.regT mixed rfl ?_); (conv => { arg 3; simp [prep, prep1] }); (repeat (first | (refine runK_go ?_ ?_; (focus (simp; done)); (conv => { arg 4; simp (disch := omega) [if_pos, if_neg, wh] }); (first | refine contK_val ?_ | (refine contK_go ?_; (conv => { arg 5; simp })))) | (refine skip_val rfl ?_ ?_; (focus (simp; done))) | (refine runK_go ?_ ?_; (focus (simp; done)); (conv => { arg 4; simp (disch := omega) [if_pos, if_neg, wh] }); refine callU true rfl rfl ⟨_, Tryz.func105, rfl, rfl⟩ ?_; (conv => { arg 6; simp (disch := omega) [if_pos, if_neg, wh] }); refine callC_go (c1) rfl ?_; (conv => { arg 5; simp (disch := omega) [if_pos, if_neg, wh] })) | (refine runK_go ?_ ?_; (focus (simp; done)); (conv => { arg 4; simp (disch := omega) [if_pos, if_neg, wh] }); refine callU true rfl rfl ⟨_, Tryz.func106, rfl, rfl⟩ ?_; (conv => { arg 6; simp (disch := omega) [if_pos, if_neg, wh] }); refine callC_go (c2) rfl ?_; (conv => { arg 5; simp (disch := omega) [if_pos, if_neg, wh] })))); with_reducible refine runK_nil ?_; (first | refine ⟨rfl, ?_⟩ | refine ⟨by simp [quietB], by simp [quietU], ?_⟩ | skip)) | (refine WL.cond ?_; (conv => { arg 1; simp (disch := omega) [if_pos, if_neg, wh] }); (first | with_reducible refine condT ?_ | with_reducible refine condF ?_ | with_reducible refine condPT (by omega) ?_ | with_reducible refine condPF (by omega) ?_))))
  refine ⟨[], ?_⟩
  simp (disch := omega) [if_pos, if_neg, fr]

theorem wholeNegZ (x : Int) (hx : (nw x.natAbs).length ≤ 274877906944) : CallOk Tryz.prog 108 [whZ x] [] (whZ (-x)) [] := by
  have := wholeNeg (decide (x < 0)) _ (wf_nw x.natAbs) (by omega)
  rwa [zv_nw] at this

theorem frQ_neg (q : Rat) : frQ (-q) = fr (decide (-q.num < 0)) (nw (-q.num).natAbs) (nw q.den) := by
  unfold frQ; rw [Rat.neg_num, Rat.neg_den]

theorem lenQ_num (s : Bool) (n d : List Nat) (hn : wf n) : (nw (qv s n d).num.natAbs).length ≤ n.length := by
  unfold qv
  rw [Rat.num_mkRat]
  split
  · simp [nw_zero]
  · refine Nat.le_trans (nw_len_mono ?_) (nw_norm_len hn)
    unfold zv
    rw [zs_abs, zs_div _ _ _ (Nat.gcd_dvd_right _ _), zs_abs]
    exact Nat.div_le_self _ _
theorem lenQ_den (s : Bool) (n d : List Nat) (hd : wf d) : (nw (qv s n d).den).length ≤ max 1 d.length := by
  unfold qv
  rw [Rat.den_mkRat]
  split
  · rw [nw_one]; simp; omega
  · exact Nat.le_trans (nw_len_mono (Nat.div_le_self _ _)) (Nat.le_trans (nw_norm_len hd) (by omega))

theorem fracNeg (sa : Bool) (na da : List Nat) (h1 : wf na) (h2 : wf da) (l1 : na.length ≤ 68719476736) (l2 : da.length ≤ 68719476736) :
    CallOk Tryz.prog 64 [fr sa na da] [] (frQ (-(qv sa na da))) [] := by
  have c1 := fracNorm sa na da h1 h2 l1 l2
  have k := lenQ_num sa na da h1
  have c2 := wholeNegZ (qv sa na da).num (by omega)
  rw [frQ_neg]
  generalize qv sa na da = q at *
  unfold frQ at c1
  unfold whZ at c2
  generalize decide (q.num < 0) = b1 at *
  generalize decide (-q.num < 0) = b2 at *
  generalize q.num.natAbs = k1 at *
  generalize (-q.num).natAbs = k2 at *
  generalize q.den = d at *
  refine CallOk.of_wl Tryz.func64 rfl rfl rfl (Nat.le_of_ble_eq_true rfl) ?_
  (repeat (first | with_reducible refine WL.seq ?_ | with_reducible refine WL.skip ?_ | with_reducible refine WL.label ?_ | with_reducible refine WL.block ?_ | with_reducible refine WL.scope ?_ | with_reducible refine WL.nilS ?_ | with_reducible refine WL.reS ?_ | with_reducible refine WL.exS ?_ | with_reducible refine WL.nilB ?_ | with_reducible refine WL.nilT ?_ | with_reducible refine WL.exit ?_ | with_reducible refine WL.ret ?_ | with_reducible refine WL.exT ?_ | with_reducible refine WL.exB ?_ | with_reducible refine WL.exN rfl ?_ | with_reducible refine WL.reT ?_ | with_reducible refine WL.reB ?_ | ((first | refine WL.reg rfl ?_ | refine WL.regT mixed rfl ?_); (conv => { arg 3; simp [prep, prep1] }); (repeat (first | (refine runK_go ?_ ?_; (focus (simp; done)); (conv => { arg 4; simp (disch := omega) [if_pos, if_neg, fr, wh] }); (first | refine contK_val ?_ | (refine contK_go ?_; (conv => { arg 5; simp })))) | (refine skip_val rfl ?_ ?_; (focus (simp; done))) | (refine runK_go ?_ ?_; (focus (simp; done)); (conv => { arg 4; simp (disch := omega) [if_pos, if_neg, fr, wh] }); refine callU true rfl rfl ⟨_, Tryz.func78, rfl, rfl⟩ ?_; (conv => { arg 6; simp (disch := omega) [if_pos, if_neg, fr, wh] }); refine callC_go (c1) rfl ?_; (conv => { arg 5; simp (disch := omega) [if_pos, if_neg, fr, wh] })) | (refine runK_go ?_ ?_; (focus (simp; done)); (conv => { arg 4; simp (disch := omega) [if_pos, if_neg, fr, wh] }); refine callU true rfl rfl ⟨_, Tryz.func108, rfl, rfl⟩ ?_; (conv => { arg 6; simp (disch := omega) [if_pos, if_neg, fr, wh] }); refine callC_go (c2) rfl ?_; (conv => { arg 5; simp (disch := omega) [if_pos, if_neg, fr, wh] })))); with_reducible refine runK_nil ?_; (first | refine ⟨rfl, ?_⟩ | refine ⟨by simp [quietB], by simp [quietU], ?_⟩ | skip)) | (refine WL.cond ?_; (conv => { arg 1; simp (disch := omega) [if_pos, if_neg, fr, wh] }); (first | with_reducible refine condT ?_ | with_reducible refine condF ?_ | with_reducible refine condPT (by omega) ?_ | with_reducible refine condPF (by omega) ?_))))
  refine ⟨[], ?_⟩
  simp (disch := omega) [if_pos, if_neg, fr]

theorem zs_xor (z : Int) (t : Bool) : zs (decide (z < 0) != t) z.natAbs = if t = true then -z else z := by
  unfold zs; cases t <;> by_cases h : z < 0 <;> simp [h] <;> omega

theorem div_mk (z : Int) (d e : Nat) (t : Bool) (m : Nat) (hd : 0 < d) (he : 0 < e) (hm : 0 < m) : mkRat (if t = true then -(z * e) else z * e) (d * m) = mkRat z d / mkRat (zs t m) e := by
  have h1 : ((d : Nat) : Rat) ≠ 0 := by simp; omega
  have h2 : ((e : Nat) : Rat) ≠ 0 := by simp; omega
  have h3 : ((m : Nat) : Rat) ≠ 0 := by simp; omega
  simp only [Rat.mkRat_eq_div]
  cases t <;> simp only [zs, Rat.natCast_mul, Rat.intCast_mul, Rat.intCast_neg, Rat.intCast_natCast, if_true, Bool.false_eq_true, if_false] <;> grind

set_option maxHeartbeats 1000000 in
theorem fracQuo (sa sb : Bool) (na da nb db : List Nat) (h1 : wf na) (h2 : wf da) (h3 : wf nb) (h4 : wf db) (l1 : na.length ≤ 68719476736) (l2 : da.length ≤ 68719476736) (l3 : nb.length ≤ 68719476736) (l4 : db.length ≤ 68719476736) :
    CallOk Tryz.prog 66 [fr sa na da, fr sb nb db] [] (.tup [frQ (qv sa na da / qv sb nb db), .bool (decide (qv sb nb db ≠ 0))]) [] := by
  obtain ⟨s, N, D, c1, p1⟩ := fracParts sa na da h1 h2 (by omega)
  obtain ⟨t, M, E, c2, p2⟩ := fracParts sb nb db h3 h4 (by omega)
  obtain ⟨wN, wD, hD, hv1, lN, lD⟩ := p1
  obtain ⟨wM, wE, hE, hv2, lM, lE⟩ := p2
  have c3 := wholeSign t M wM (by omega)
  have e3 := sgnQ_zero (qv sb nb db)
  rw [sgn_mk _ _ hE, ← hv2] at c3
  by_cases hz : qv sb nb db = 0
  · have c4 := fracOf 0 (by omega)
    have e1 : qv sa na da / qv sb nb db = ((0 : Int) : Rat) := by rw [hz]; simp [Rat.div_def]
    rw [e1]
    have e4 : sgnQ (qv sb nb db) = 0 := by rw [hz]; rfl
    rw [e4] at c3
    generalize ((0 : Int) : Rat) = q0 at *
    simp only [ne_eq, hz, not_true_eq_false, decide_false]
    clear e1 e3 hv1 hv2 hz
    refine CallOk.of_wl Tryz.func66 rfl rfl rfl (Nat.le_of_ble_eq_true rfl) ?_
    (repeat (first | with_reducible refine WL.seq ?_ | with_reducible refine WL.skip ?_ | with_reducible refine WL.label ?_ | with_reducible refine WL.block ?_ | with_reducible refine WL.scope ?_ | with_reducible refine WL.nilS ?_ | with_reducible refine WL.reS ?_ | with_reducible refine WL.exS ?_ | with_reducible refine WL.nilB ?_ | with_reducible refine WL.nilT ?_ | with_reducible refine WL.exit ?_ | with_reducible refine WL.ret ?_ | with_reducible refine WL.exT ?_ | with_reducible refine WL.exB ?_ | with_reducible refine WL.exN rfl ?_ | with_reducible refine WL.reT ?_ | with_reducible refine WL.reB ?_ | ((first | refine WL.reg rfl ?_ | refine WL.regT mixed rfl ?_); (conv => { arg 3; simp [prep, prep1] }); (repeat (first | (refine runK_go ?_ ?_; (focus (simp; done)); (conv => { arg 4; simp (disch := omega) [if_pos, if_neg, fr, wh, frQ] }); (first | refine contK_val ?_ | (refine contK_go ?_; (conv => { arg 5; simp })))) | (refine skip_val rfl ?_ ?_; (focus (simp; done))) | (refine runK_go ?_ ?_; (focus (simp; done)); (conv => { arg 4; simp (disch := omega) [if_pos, if_neg, fr, wh, frQ] }); refine callU true rfl rfl ⟨_, Tryz.func79, rfl, rfl⟩ ?_; (conv => { arg 6; simp (disch := omega) [if_pos, if_neg, fr, wh, frQ] }); refine callC_go (c1) rfl ?_; (conv => { arg 5; simp (disch := omega) [if_pos, if_neg, fr, wh, frQ] })) | (refine runK_go ?_ ?_; (focus (simp; done)); (conv => { arg 4; simp (disch := omega) [if_pos, if_neg, fr, wh, frQ] }); refine callU true rfl rfl ⟨_, Tryz.func79, rfl, rfl⟩ ?_; (conv => { arg 6; simp (disch := omega) [if_pos, if_neg, fr, wh, frQ] }); refine callC_go (c2) rfl ?_; (conv => { arg 5; simp (disch := omega) [if_pos, if_neg, fr, wh, frQ] })) | (refine runK_go ?_ ?_; (focus (simp; done)); (conv => { arg 4; simp (disch := omega) [if_pos, if_neg, fr, wh, frQ] }); refine callU true rfl rfl ⟨_, Tryz.func80, rfl, rfl⟩ ?_; (conv => { arg 6; simp (disch := omega) [if_pos, if_neg, fr, wh, frQ] }); refine callC_go (c3) rfl ?_; (conv => { arg 5; simp (disch := omega) [if_pos, if_neg, fr, wh, frQ] })) | (refine runK_go ?_ ?_; (focus (simp; done)); (conv => { arg 4; simp (disch := omega) [if_pos, if_neg, fr, wh, frQ] }); refine callU true rfl rfl ⟨_, Tryz.func60, rfl, rfl⟩ ?_; (conv => { arg 6; simp (disch := omega) [if_pos, if_neg, fr, wh, frQ] }); refine callC_go (c4) rfl ?_; (conv => { arg 5; simp (disch := omega) [if_pos, if_neg, fr, wh, frQ] })))); with_reducible refine runK_nil ?_; (first | refine ⟨rfl, ?_⟩ | refine ⟨by simp [quietB], by simp [quietU], ?_⟩ | skip)) | (refine WL.cond ?_; (conv => { arg 1; simp (disch := omega) [if_pos, if_neg, fr, wh, frQ] }); (first | with_reducible refine condT ?_ | with_reducible refine condF ?_ | with_reducible refine condPT (by omega) ?_ | with_reducible refine condPF (by omega) ?_))))
    refine ⟨[], ?_⟩
    simp (disch := omega) [if_pos, if_neg, frQ, fr]
  · have e4 : ¬ sgnQ (qv sb nb db) = 0 := by
      intro h; rw [h] at e3; simp [hz] at e3
    have hM : 0 < val M := by
      rcases Nat.eq_zero_or_pos (val M) with h | h
      · exfalso; apply hz; rw [hv2]
        have : zv t M = 0 := by unfold zv zs; rw [h]; cases t <;> rfl
        rw [this]; simp
      · exact h
    have c4 := fracCross s N E wN wE (by omega)
    have k1 := lenZ_cross s N E wN wE
    have c6 := prodMul D M wD wM (by omega)
    have k4 := lenV_mul D M wD wM
    have c7 := fracCancel (decide (zv s N * val E < 0) != t) (nw (zv s N * val E).natAbs) (nw (val D * val M)) (wf_nw _) (wf_nw _) (by rw [val_nw]; exact Nat.mul_pos hD hM) (by omega) (by omega)
    unfold zv at c7 hv1 hv2
    rw [val_nw, val_nw] at c7
    change CallOk _ _ _ _ (frQ (mkRat (zs (decide (zv s N * val E < 0) != t) (zv s N * val E).natAbs) _)) _ at c7
    rw [zs_xor, show zv s N = zs s (val N) from rfl, div_mk _ _ _ _ _ hD hE hM, ← hv1, ← hv2] at c7
    change CallOk _ _ [wh (decide (zv s N * val E < 0) != t) (nw (zv s N * val E).natAbs), _] _ _ _ at c7
    unfold whZ at c4
    have hd : decide (qv sb nb db ≠ 0) = true := by simp [hz]
    rw [hd]
    clear e3 hv1 hv2 hz hd
    generalize qv sa na da / qv sb nb db = q at *
    generalize sgnQ (qv sb nb db) = z5 at *
    generalize decide (zv s N * val E < 0) = b1 at *
    generalize (zv s N * val E).natAbs = k1 at *
    generalize val D * val M = de at *
    refine CallOk.of_wl Tryz.func66 rfl rfl rfl (Nat.le_of_ble_eq_true rfl) ?_
    (repeat (first | with_reducible refine WL.seq ?_ | with_reducible refine WL.skip ?_ | with_reducible refine WL.label ?_ | with_reducible refine WL.block ?_ | with_reducible refine WL.scope ?_ | with_reducible refine WL.nilS ?_ | with_reducible refine WL.reS ?_ | with_reducible refine WL.exS ?_ | with_reducible refine WL.nilB ?_ | with_reducible refine WL.nilT ?_ | with_reducible refine WL.exit ?_ | with_reducible refine WL.ret ?_ | with_reducible refine WL.exT ?_ | with_reducible refine WL.exB ?_ | with_reducible refine WL.exN rfl ?_ | with_reducible refine WL.reT ?_ | with_reducible refine WL.reB ?_ | ((first | refine WL.reg rfl ?_ | refine WL.regT mixed rfl ?_); (conv => { arg 3; simp [prep, prep1] }); (repeat (first | (refine runK_go ?_ ?_; (focus (simp; done)); (conv => { arg 4; simp (disch := omega) [if_pos, if_neg, fr, wh, frQ, e4] }); (first | refine contK_val ?_ | (refine contK_go ?_; (conv => { arg 5; simp })))) | (refine skip_val rfl ?_ ?_; (focus (simp; done))) | (refine runK_go ?_ ?_; (focus (simp; done)); (conv => { arg 4; simp (disch := omega) [if_pos, if_neg, fr, wh, frQ, e4] }); refine callU true rfl rfl ⟨_, Tryz.func79, rfl, rfl⟩ ?_; (conv => { arg 6; simp (disch := omega) [if_pos, if_neg, fr, wh, frQ, e4] }); refine callC_go (c1) rfl ?_; (conv => { arg 5; simp (disch := omega) [if_pos, if_neg, fr, wh, frQ, e4] })) | (refine runK_go ?_ ?_; (focus (simp; done)); (conv => { arg 4; simp (disch := omega) [if_pos, if_neg, fr, wh, frQ, e4] }); refine callU true rfl rfl ⟨_, Tryz.func79, rfl, rfl⟩ ?_; (conv => { arg 6; simp (disch := omega) [if_pos, if_neg, fr, wh, frQ, e4] }); refine callC_go (c2) rfl ?_; (conv => { arg 5; simp (disch := omega) [if_pos, if_neg, fr, wh, frQ, e4] })) | (refine runK_go ?_ ?_; (focus (simp; done)); (conv => { arg 4; simp (disch := omega) [if_pos, if_neg, fr, wh, frQ, e4] }); refine callU true rfl rfl ⟨_, Tryz.func80, rfl, rfl⟩ ?_; (conv => { arg 6; simp (disch := omega) [if_pos, if_neg, fr, wh, frQ, e4] }); refine callC_go (c3) rfl ?_; (conv => { arg 5; simp (disch := omega) [if_pos, if_neg, fr, wh, frQ, e4] })) | (refine runK_go ?_ ?_; (focus (simp; done)); (conv => { arg 4; simp (disch := omega) [if_pos, if_neg, fr, wh, frQ, e4] }); refine callU true rfl rfl ⟨_, Tryz.func83, rfl, rfl⟩ ?_; (conv => { arg 6; simp (disch := omega) [if_pos, if_neg, fr, wh, frQ, e4] }); refine callC_go (c4) rfl ?_; (conv => { arg 5; simp (disch := omega) [if_pos, if_neg, fr, wh, frQ, e4] })) | (refine runK_go ?_ ?_; (focus (simp; done)); (conv => { arg 4; simp (disch := omega) [if_pos, if_neg, fr, wh, frQ, e4] }); refine callU true rfl rfl ⟨_, Tryz.func84, rfl, rfl⟩ ?_; (conv => { arg 6; simp (disch := omega) [if_pos, if_neg, fr, wh, frQ, e4] }); refine callC_go (c6) rfl ?_; (conv => { arg 5; simp (disch := omega) [if_pos, if_neg, fr, wh, frQ, e4] })) | (refine runK_go ?_ ?_; (focus (simp; done)); (conv => { arg 4; simp (disch := omega) [if_pos, if_neg, fr, wh, frQ, e4] }); refine callU true rfl rfl ⟨_, Tryz.func81, rfl, rfl⟩ ?_; (conv => { arg 6; simp (disch := omega) [if_pos, if_neg, fr, wh, frQ, e4] }); refine callC_go (c7) rfl ?_; (conv => { arg 5; simp (disch := omega) [if_pos, if_neg, fr, wh, frQ, e4] })))); with_reducible refine runK_nil ?_; (first | refine ⟨rfl, ?_⟩ | refine ⟨by simp [quietB], by simp [quietU], ?_⟩ | skip)) | (refine WL.cond ?_; (conv => { arg 1; simp (disch := omega) [if_pos, if_neg, fr, wh, frQ, e4] }); (first | with_reducible refine condT ?_ | with_reducible refine condF ?_ | with_reducible refine condPT (by omega) ?_ | with_reducible refine condPF (by omega) ?_))))
    refine ⟨[], ?_⟩
    simp (disch := omega) [if_pos, if_neg, frQ, fr]
end Go.Proofs.YthgldcflcmlgpaaGreatDoorE
end

section
/- Rows of fractions: how they lie, and how long their values' numbers are. -/
-- x3
set_option linter.unusedVariables false
set_option linter.unusedSimpArgs false
namespace Go.Proofs.YthgldcflcmlgpaaGreatDoorE
open Go.RowKit
set_option maxRecDepth 100000
attribute [local simp] List.getElem?_cons_zero List.getElem?_cons_succ List.getElem?_nil wrap_i64 stOf st0 effF effC evalV evalL upd_n updI_n pv_t pv_c pv_g pv_f ofConst binV binI lenV foldV mx2 mn2 unV convV extractV idxV indexV fieldAddrV fieldV partV sliceV boundsV loadL live storeE appendE srcV litE makeE IntKind.bits copyE boxE allocE flatParts flatCs flatC allParts cellsOf solid leafB fillL frzL buildV fillP placeS eqFl eqCell St.eff St.put wrs callE renP renA renC renI nid newL renB noEff endK endR resA resL resV expP expA expC expN expL expBs expB idx thenQ blockQ wantK wrap_u32 wrap_u64_in beqI bneI w32 wl fdiv_pos Int.natCast_inj

/-- A fraction as it stands. -/
structure RF where
  neg : Bool
  n : List Nat
  d : List Nat
def RF.cells (a : RF) : List PV := [.bool a.neg, wl a.n, wl a.d]
def RF.pv (a : RF) : PV := .agg a.cells
def RF.q (a : RF) : Rat := qv a.neg a.n a.d
/-- It is of words, and not longer than so many. -/
structure RF.ok (a : RF) (k : Nat) : Prop where
  wn : wf a.n
  wd : wf a.d
  ln : a.n.length ≤ k
  ld : a.d.length ≤ k
def RF.of (q : Rat) : RF := ⟨decide (q.num < 0), nw q.num.natAbs, nw q.den⟩
theorem RF.of_q (q : Rat) : (RF.of q).q = q := qv_frQ q
theorem RF.of_pv (q : Rat) : (RF.of q).pv = frQ q := rfl
theorem RF.of_ok {q : Rat} {k : Nat} (h : szQ q ≤ k) : (RF.of q).ok k := ⟨wf_nw _, wf_nw _, Nat.le_trans (Nat.le_max_left _ _) h, Nat.le_trans (Nat.le_max_right _ _) h⟩
theorem RF.ok.mono {a : RF} {k m : Nat} (h : a.ok k) (hk : k ≤ m) : a.ok m := ⟨h.wn, h.wd, Nat.le_trans h.ln hk, Nat.le_trans h.ld hk⟩

def rowC (l : List RF) : List PV := l.flatMap RF.cells
def row (l : List RF) : PV := .rd (rowC l) l.length
def rowQ (l : List Rat) : PV := row (l.map RF.of)
theorem rowC_len (l : List RF) : (rowC l).length = l.length * 3 := by
  induction l with
  | nil => rfl
  | cons a l ih => simp [rowC, RF.cells] at ih ⊢; omega
theorem rowC_drop (l : List RF) : ∀ i, (rowC l).drop (i * 3) = rowC (l.drop i) := by
  induction l with
  | nil => intro i; simp [rowC]
  | cons a l ih =>
    intro i
    cases i with
    | zero => simp
    | succ i =>
      have : (i + 1) * 3 = i * 3 + 1 + 1 + 1 := by omega
      rw [this]
      have e : rowC (a :: l) = .bool a.neg :: wl a.n :: wl a.d :: rowC l := rfl
      rw [e, List.drop_succ_cons, List.drop_succ_cons, List.drop_succ_cons, ih]
      simp
theorem rowC_at {l : List RF} {i : Nat} (h : i < l.length) : ((rowC l).drop (i * 3)).take 3 = (l[i]'h).cells := by
  rw [rowC_drop, List.drop_eq_getElem_cons h]; rfl
theorem rowC_app (a b : List RF) : rowC (a ++ b) = rowC a ++ rowC b := by simp [rowC]
theorem rowC_take (l : List RF) : ∀ i, (rowC l).take (i * 3) = rowC (l.take i) := by
  induction l with
  | nil => intro i; simp [rowC]
  | cons a l ih =>
    intro i
    cases i with
    | zero => simp [rowC]
    | succ i =>
      have : (i + 1) * 3 = i * 3 + 1 + 1 + 1 := by omega
      rw [this]
      have e : rowC (a :: l) = .bool a.neg :: wl a.n :: wl a.d :: rowC l := rfl
      rw [e, List.take_succ_cons, List.take_succ_cons, List.take_succ_cons, ih]
      rfl
theorem rowC_set {l : List RF} {i : Nat} (a : RF) (h : i < l.length) : (rowC l).take (i * 3) ++ a.cells ++ (rowC l).drop (i * 3 + 3) = rowC (l.set i a) := by
  have : i * 3 + 3 = (i + 1) * 3 := by omega
  rw [this, rowC_take, rowC_drop, List.set_eq_take_append_cons_drop, if_pos h, rowC_app]
  simp [rowC]

/-! ### lengths -/
theorem szQ_raw {s : Bool} {n d : List Nat} (hn : wf n) (hd : wf d) : szQ (qv s n d) ≤ max 1 (max n.length d.length) := by
  have h1 := lenQ_num s n d hn
  have h2 := lenQ_den s n d hd
  unfold szQ; omega
theorem szQ_mk (z : Int) (d : Nat) : szQ (mkRat z d) ≤ max 1 (max (nw z.natAbs).length (nw d).length) := by
  have := szQ_raw (s := decide (z < 0)) (wf_nw z.natAbs) (wf_nw d)
  unfold qv at this
  rwa [zv_nw, val_nw] at this
theorem szQ_pos (q : Rat) : 1 ≤ szQ q := by
  have : 0 < (nw q.den).length := nw_pos_len.2 q.den_pos
  unfold szQ; omega
theorem szQ_mul (p q : Rat) : szQ (p * q) ≤ szQ p + szQ q := by
  have h := szQ_mk (p.num * q.num) (p.den * q.den)
  rw [← Rat.mkRat_mul_mkRat, Rat.mkRat_self, Rat.mkRat_self, Int.natAbs_mul] at h
  have h1 := len_mul p.num.natAbs q.num.natAbs
  have h2 := len_mul p.den q.den
  have h3 := szQ_pos p
  unfold szQ at h3 ⊢
  unfold szQ at h
  omega
theorem szQ_add (p q : Rat) : szQ (p + q) ≤ szQ p + szQ q + 1 := by
  have h := szQ_mk (p.num * q.den + q.num * p.den) (p.den * q.den)
  rw [← Rat.mkRat_add_mkRat _ _ p.den_nz q.den_nz, Rat.mkRat_self, Rat.mkRat_self] at h
  have h1 := lenZ_add (p.num * q.den) (q.num * p.den)
  rw [Int.natAbs_mul, Int.natAbs_mul, Int.natAbs_natCast, Int.natAbs_natCast] at h1
  have h2 := len_mul p.den q.den
  have h3 := len_mul p.num.natAbs q.den
  have h4 := len_mul q.num.natAbs p.den
  unfold szQ at h ⊢
  omega
theorem szQ_neg (q : Rat) : szQ (-q) = szQ q := by unfold szQ; rw [Rat.neg_num, Rat.neg_den, Int.natAbs_neg]
theorem szQ_sub (p q : Rat) : szQ (p - q) ≤ szQ p + szQ q + 1 := by
  rw [Rat.sub_eq_add_neg]; have := szQ_add p (-q); rwa [szQ_neg] at this
theorem szQ_div (p q : Rat) : szQ (p / q) ≤ szQ p + szQ q := by
  by_cases h0 : q = 0
  · subst h0
    have : p / 0 = 0 := by simp [Rat.div_def]
    rw [this]
    have h1 : szQ 0 ≤ 1 := by have := szQ_mk 0 1; simpa [nw_zero, nw_one] using this
    have := szQ_pos p
    omega
  · have hq : 0 < q.num.natAbs := by
      have : q.num ≠ 0 := fun h => h0 (Rat.num_eq_zero.1 h)
      omega
    have h := szQ_mk (if decide (q.num < 0) = true then -(p.num * q.den) else p.num * q.den) (p.den * q.num.natAbs)
    rw [div_mk _ _ _ _ _ p.den_pos q.den_pos hq] at h
    have e : zs (decide (q.num < 0)) q.num.natAbs = q.num := by have := zv_nw q.num; unfold zv at this; rwa [val_nw] at this
    rw [e, Rat.mkRat_self, Rat.mkRat_self] at h
    have e2 : (if decide (q.num < 0) = true then -(p.num * q.den) else p.num * q.den : Int).natAbs = p.num.natAbs * q.den := by
      split
      · rw [Int.natAbs_neg, Int.natAbs_mul, Int.natAbs_natCast]
      · rw [Int.natAbs_mul, Int.natAbs_natCast]
    rw [e2] at h
    have h1 := len_mul p.num.natAbs q.den
    have h2 := len_mul p.den q.num.natAbs
    have h3 := szQ_pos p
    unfold szQ at h h3 ⊢
    omega
theorem szQ_int (n : Int) (h : n.natAbs < 4294967296) : szQ (n : Rat) ≤ 1 := by
  unfold szQ
  rw [Rat.num_intCast, Rat.den_intCast, nw_one]
  have : (nw n.natAbs).length ≤ 1 := nw_len_le (by simpa using h)
  simp only [List.length_cons, List.length_nil]; omega

/-! ### fractions as they stand, by their names -/
section
variable {a b : RF}
theorem rfAdd (ha : a.ok 68719476736) (hb : b.ok 68719476736) : CallOk Tryz.prog 29 [a.pv, b.pv] [] (frQ (a.q + b.q)) [] := fracAdd _ _ _ _ _ _ ha.wn ha.wd hb.wn hb.wd ha.ln ha.ld hb.ln hb.ld
theorem rfSub (ha : a.ok 68719476736) (hb : b.ok 68719476736) : CallOk Tryz.prog 107 [a.pv, b.pv] [] (frQ (a.q - b.q)) [] := fracSub _ _ _ _ _ _ ha.wn ha.wd hb.wn hb.wd ha.ln ha.ld hb.ln hb.ld
theorem rfMul (ha : a.ok 68719476736) (hb : b.ok 68719476736) : CallOk Tryz.prog 50 [a.pv, b.pv] [] (frQ (a.q * b.q)) [] := fracMul _ _ _ _ _ _ ha.wn ha.wd hb.wn hb.wd ha.ln ha.ld hb.ln hb.ld
theorem rfQuo (ha : a.ok 68719476736) (hb : b.ok 68719476736) : CallOk Tryz.prog 66 [a.pv, b.pv] [] (.tup [frQ (a.q / b.q), .bool (decide (b.q ≠ 0))]) [] := fracQuo _ _ _ _ _ _ ha.wn ha.wd hb.wn hb.wd ha.ln ha.ld hb.ln hb.ld
theorem rfSame (ha : a.ok 68719476736) (hb : b.ok 68719476736) : CallOk Tryz.prog 49 [a.pv, b.pv] [] (.bool (decide (a.q = b.q))) [] := fracSame _ _ _ _ _ _ ha.wn ha.wd hb.wn hb.wd ha.ln ha.ld hb.ln hb.ld
theorem rfNeg (ha : a.ok 68719476736) : CallOk Tryz.prog 64 [a.pv] [] (frQ (- a.q)) [] := fracNeg _ _ _ ha.wn ha.wd ha.ln ha.ld
theorem rfSign (ha : a.ok 68719476736) : CallOk Tryz.prog 28 [a.pv] [] (.int .i64 (sgnQ a.q)) [] := fracSign _ _ _ ha.wn ha.wd ha.ln ha.ld
end
section
variable {p q : Rat}
theorem qAdd (hp : szQ p ≤ 68719476736) (hq : szQ q ≤ 68719476736) : CallOk Tryz.prog 29 [frQ p, frQ q] [] (frQ (p + q)) [] := by
  have := rfAdd (RF.of_ok hp) (RF.of_ok hq); rwa [RF.of_q, RF.of_q] at this
theorem qMul (hp : szQ p ≤ 68719476736) (hq : szQ q ≤ 68719476736) : CallOk Tryz.prog 50 [frQ p, frQ q] [] (frQ (p * q)) [] := by
  have := rfMul (RF.of_ok hp) (RF.of_ok hq); rwa [RF.of_q, RF.of_q] at this
theorem qNeg (hp : szQ p ≤ 68719476736) : CallOk Tryz.prog 64 [frQ p] [] (frQ (-p)) [] := by
  have := rfNeg (RF.of_ok hp); rwa [RF.of_q] at this
end
end Go.Proofs.YthgldcflcmlgpaaGreatDoorE
end

section
/- Spans: their parts, and small sums and products. -/
-- x3
set_option linter.unusedVariables false
set_option linter.unusedSimpArgs false
namespace Go.Proofs.YthgldcflcmlgpaaGreatDoorE
open Go.RowKit
set_option maxRecDepth 100000
attribute [local simp] List.getElem?_cons_zero List.getElem?_cons_succ List.getElem?_nil wrap_i64 stOf st0 effF effC evalV evalL upd_n updI_n pv_t pv_c pv_g pv_f ofConst binV binI lenV foldV mx2 mn2 unV convV extractV idxV indexV fieldAddrV fieldV partV sliceV boundsV loadL live storeE appendE srcV litE makeE IntKind.bits copyE boxE allocE flatParts flatCs flatC allParts cellsOf solid leafB fillL frzL buildV fillP placeS eqFl eqCell St.eff St.put wrs callE renP renA renC renI nid newL renB noEff endK endR resA resL resV expP expA expC expN expL expBs expB idx thenQ blockQ wantK wrap_u32 wrap_u64_in beqI bneI w32 wl fdiv_pos Int.natCast_inj

structure Spn where
  t : RF
  h : RF
  y0 : List RF
  y1 : List RF
  f0 : List RF
  f1 : List RF
def Spn.cells (c : Spn) : List PV := [.bool c.t.neg, wl c.t.n, wl c.t.d, .bool c.h.neg, wl c.h.n, wl c.h.d, row c.y0, row c.y1, row c.f0, row c.f1]
def Spn.pv (c : Spn) : PV := .agg c.cells

theorem spanLinear (a b : Int) (q : Rat) (ha : a.natAbs < 4294967296) (hb : b.natAbs < 4294967296) (hq : szQ q ≤ 1073741824) :
    CallOk Tryz.prog 62 [.int .i64 a, .int .i64 b, frQ q] [] (frQ (a + b * q)) [] := by
  have c1 := fracOf a (by omega)
  have c2 := fracOf b (by omega)
  have s1 := szQ_int a ha
  have s2 := szQ_int b hb
  have s3 := szQ_mul (b : Rat) q
  have c3 := qMul (p := (b : Rat)) (q := q) (by omega) (by omega)
  have c4 := qAdd (p := (a : Rat)) (q := (b : Rat) * q) (by omega) (by omega)
  generalize (a : Rat) + (b : Rat) * q = r at *
  generalize (b : Rat) * q = r2 at *
  generalize (a : Rat) = r3 at *
  generalize (b : Rat) = r4 at *
  refine CallOk.of_wl Tryz.func62 rfl rfl rfl (Nat.le_of_ble_eq_true rfl) ?_
  (repeat (first | with_reducible refine WL.seq ?_ | with_reducible refine WL.skip ?_ | with_reducible refine WL.label ?_ | with_reducible refine WL.block ?_ | with_reducible refine WL.scope ?_ | with_reducible refine WL.nilS ?_ | with_reducible refine WL.reS ?_ | with_reducible refine WL.exS ?_ | with_reducible refine WL.nilB ?_ | with_reducible refine WL.nilT ?_ | with_reducible refine WL.exit ?_ | with_reducible refine WL.ret ?_ | with_reducible refine WL.exT ?_ | with_reducible refine WL.exB ?_ | with_reducible refine WL.exN rfl ?_ | with_reducible refine WL.reT ?_ | with_reducible refine WL.reB ?_ | ((first | refine WL.reg rfl ?_ | refine WL.regT mixed rfl ?_); (conv => { arg 3; simp [prep, prep1] }); (repeat (first | (refine runK_go ?_ ?_; (focus (simp; done)); (conv => { arg 4; simp (disch := omega) [if_pos, if_neg, frQ, fr] }); (first | refine contK_val ?_ | (refine contK_go ?_; (conv => { arg 5; simp })))) | (refine skip_val rfl ?_ ?_; (focus (simp; done))) | (refine runK_go ?_ ?_; (focus (simp; done)); (conv => { arg 4; simp (disch := omega) [if_pos, if_neg, frQ, fr] }); refine callU true rfl rfl ⟨_, Tryz.func60, rfl, rfl⟩ ?_; (conv => { arg 6; simp (disch := omega) [if_pos, if_neg, frQ, fr] }); refine callC_go (c1) rfl ?_; (conv => { arg 5; simp (disch := omega) [if_pos, if_neg, frQ, fr] })) | (refine runK_go ?_ ?_; (focus (simp; done)); (conv => { arg 4; simp (disch := omega) [if_pos, if_neg, frQ, fr] }); refine callU true rfl rfl ⟨_, Tryz.func60, rfl, rfl⟩ ?_; (conv => { arg 6; simp (disch := omega) [if_pos, if_neg, frQ, fr] }); refine callC_go (c2) rfl ?_; (conv => { arg 5; simp (disch := omega) [if_pos, if_neg, frQ, fr] })) | (refine runK_go ?_ ?_; (focus (simp; done)); (conv => { arg 4; simp (disch := omega) [if_pos, if_neg, frQ, fr] }); refine callU true rfl rfl ⟨_, Tryz.func50, rfl, rfl⟩ ?_; (conv => { arg 6; simp (disch := omega) [if_pos, if_neg, frQ, fr] }); refine callC_go (c3) rfl ?_; (conv => { arg 5; simp (disch := omega) [if_pos, if_neg, frQ, fr] })) | (refine runK_go ?_ ?_; (focus (simp; done)); (conv => { arg 4; simp (disch := omega) [if_pos, if_neg, frQ, fr] }); refine callU true rfl rfl ⟨_, Tryz.func29, rfl, rfl⟩ ?_; (conv => { arg 6; simp (disch := omega) [if_pos, if_neg, frQ, fr] }); refine callC_go (c4) rfl ?_; (conv => { arg 5; simp (disch := omega) [if_pos, if_neg, frQ, fr] })))); with_reducible refine runK_nil ?_; (first | refine ⟨rfl, ?_⟩ | refine ⟨by simp [quietB], by simp [quietU], ?_⟩ | skip)) | (refine WL.cond ?_; (conv => { arg 1; simp (disch := omega) [if_pos, if_neg, frQ, fr] }); (first | with_reducible refine condT ?_ | with_reducible refine condF ?_ | with_reducible refine condPT (by omega) ?_ | with_reducible refine condPF (by omega) ?_))))
  refine ⟨[], ?_⟩
  simp (disch := omega) [if_pos, if_neg, frQ, fr]

def prodQ (l : List Rat) : Rat := l.foldl (· * ·) 1
theorem rowQ_at {l : List Rat} {i : Nat} (h : i < l.length) : ((rowC (l.map RF.of)).drop (i * 3)).take 3 = (RF.of (l[i]'h)).cells := by
  rw [rowC_at (by simpa using h)]; simp

theorem prodQ_snoc (l : List Rat) (x : Rat) : prodQ (l ++ [x]) = prodQ l * x := by simp [prodQ]
theorem szQ_one : szQ 1 ≤ 1 := by have := szQ_int 1 (by decide); simpa using this
def qs (l : List RF) : List Rat := l.map RF.q
theorem qs_of (l : List Rat) : qs (l.map RF.of) = l := by simp [qs, RF.of_q, Function.comp_def]
theorem RF.ok.sz {a : RF} {k : Nat} (h : a.ok k) (hk : 1 ≤ k) : szQ a.q ≤ k := by
  have := szQ_raw (s := a.neg) h.wn h.wd
  have l1 := h.ln
  have l2 := h.ld
  unfold RF.q; omega
theorem szQ_prod (K : Nat) (hK : 1 ≤ K) : ∀ l : List RF, (∀ x ∈ l, x.ok K) → ∀ i, i ≤ l.length → szQ (prodQ ((qs l).take i)) ≤ i * K + 1
  | l, h, 0, _ => by have := szQ_one; simpa [prodQ] using this
  | l, h, i + 1, hi => by
    have ih := szQ_prod K hK l h i (by omega)
    have hil : i < (qs l).length := by simp [qs]; omega
    rw [List.take_succ_eq_append_getElem hil, prodQ_snoc]
    have h1 := szQ_mul (prodQ ((qs l).take i)) ((qs l)[i]'hil)
    have h2 := (h _ (List.getElem_mem (show i < l.length by omega))).sz hK
    have e : (qs l)[i]'hil = (l[i]'(by omega)).q := by simp [qs]
    rw [e] at h1 ⊢
    rw [Nat.succ_mul i]
    omega

theorem spanTimes (l : List RF) (K : Nat) (hK : 1 ≤ K) (hl : ∀ x ∈ l, x.ok K) (hs : (l.length + 1) * K ≤ 1073741824) : CallOk Tryz.prog 63 [row l] [] (frQ (prodQ (qs l))) [] := by
  have hll : l.length ≤ 1073741824 := by
    have : (l.length + 1) * 1 ≤ (l.length + 1) * K := Nat.mul_le_mul_left _ hK
    omega
  have hKK : K ≤ 1073741824 := by
    have : 1 * K ≤ (l.length + 1) * K := Nat.mul_le_mul_right _ (by omega)
    omega
  have c1 := fracOf 1 (by omega)
  rw [show ((1 : Int) : Rat) = 1 from rfl] at c1
  have hlen := rowC_len l
  refine CallOk.of_wl Tryz.func63 rfl rfl rfl (Nat.le_of_ble_eq_true rfl) ?_
  (repeat (first | with_reducible refine WL.seq ?_ | with_reducible refine WL.skip ?_ | with_reducible refine WL.label ?_ | with_reducible refine WL.block ?_ | with_reducible refine WL.scope ?_ | with_reducible refine WL.nilS ?_ | with_reducible refine WL.reS ?_ | with_reducible refine WL.exS ?_ | with_reducible refine WL.nilB ?_ | with_reducible refine WL.nilT ?_ | with_reducible refine WL.exit ?_ | with_reducible refine WL.ret ?_ | with_reducible refine WL.exT ?_ | with_reducible refine WL.exB ?_ | with_reducible refine WL.exN rfl ?_ | with_reducible refine WL.reT ?_ | with_reducible refine WL.reB ?_ | ((first | refine WL.reg rfl ?_ | refine WL.regT mixed rfl ?_); (conv => { arg 3; simp [prep, prep1] }); (repeat (first | (refine runK_go ?_ ?_; (focus (simp; done)); (conv => { arg 4; simp (disch := omega) [if_pos, if_neg, frQ, fr, row] }); (first | refine contK_val ?_ | (refine contK_go ?_; (conv => { arg 5; simp })))) | (refine skip_val rfl ?_ ?_; (focus (simp; done))) | (refine runK_go ?_ ?_; (focus (simp; done)); (conv => { arg 4; simp (disch := omega) [if_pos, if_neg, frQ, fr, row] }); refine callU true rfl rfl ⟨_, Tryz.func60, rfl, rfl⟩ ?_; (conv => { arg 6; simp (disch := omega) [if_pos, if_neg, frQ, fr, row] }); refine callC_go (c1) rfl ?_; (conv => { arg 5; simp (disch := omega) [if_pos, if_neg, frQ, fr, row] })))); with_reducible refine runK_nil ?_; (first | refine ⟨rfl, ?_⟩ | refine ⟨by simp [quietB], by simp [quietU], ?_⟩ | skip)) | (refine WL.cond ?_; (conv => { arg 1; simp (disch := omega) [if_pos, if_neg, frQ, fr, row] }); (first | with_reducible refine condT ?_ | with_reducible refine condF ?_ | with_reducible refine condPT (by omega) ?_ | with_reducible refine condPF (by omega) ?_))))
  refine WL.loop (fun m s => ∃ i : Nat, m = l.length - i ∧ i ≤ l.length ∧ s.frame 2 = .pt ⟨2, 0, 0⟩ 0 0 ∧ s.frame 3 = .pt ⟨3, 0, 0⟩ 0 0 ∧ s.frame 7 = .rd (rowC l) l.length ∧ s.frame 8 = .int .i64 l.length ∧ s.frame 9 = .int .i64 i ∧
      s.store ⟨2, 0, 0⟩ = some ⟨0, true, false, [.bool false, .nilS, .nilS]⟩ ∧ s.store ⟨3, 0, 0⟩ = some ⟨0, true, false, (RF.of (prodQ ((qs l).take i))).cells⟩) l.length ?_ ?_
  · exact ⟨0, by omega, by omega, by simp, by simp, by simp, by simp, by simp, by simp, by simp [prodQ, RF.cells, RF.of]⟩
  rintro m ⟨f, σ, g⟩ ⟨i, rfl, hi, h2, h3, h7, h8, h9, hs2, hs3⟩
  simp only at h2 h3 h7 h8 h9 hs2 hs3
  have hz := szQ_prod K hK l hl i hi
  by_cases hi' : i < l.length
  · have hx := rowC_at hi'
    have hxo := hl _ (List.getElem_mem hi')
    have htk : (qs l).take (i + 1) = (qs l).take i ++ [(l[i]'hi').q] := by
      rw [List.take_succ_eq_append_getElem (by simpa [qs] using hi')]; simp [qs]
    have hiK : (i + 1) * K ≤ (l.length + 1) * K := Nat.mul_le_mul_right _ (by omega)
    rw [Nat.succ_mul i] at hiK
    have c2 := rfMul (a := RF.of (prodQ ((qs l).take i))) (b := l[i]'hi') (RF.of_ok (by omega)) (hxo.mono (by omega))
    rw [RF.of_q, ← prodQ_snoc, ← htk] at c2
    generalize l[i]'hi' = x at *
    have hlt : 3 ≤ (rowC l).length - i * 3 := by omega
    (repeat (first | with_reducible refine WL.seq ?_ | with_reducible refine WL.skip ?_ | with_reducible refine WL.label ?_ | with_reducible refine WL.block ?_ | with_reducible refine WL.scope ?_ | with_reducible refine WL.nilS ?_ | with_reducible refine WL.reS ?_ | with_reducible refine WL.exS ?_ | with_reducible refine WL.nilB ?_ | with_reducible refine WL.nilT ?_ | with_reducible refine WL.exit ?_ | with_reducible refine WL.ret ?_ | with_reducible refine WL.exT ?_ | with_reducible refine WL.exB ?_ | with_reducible refine WL.exN rfl ?_ | with_reducible refine WL.reT ?_ | with_reducible refine WL.reB ?_ | ((first | refine WL.reg rfl ?_ | refine WL.regT mixed rfl ?_); (conv => { arg 3; simp [prep, prep1] }); (repeat (first | (refine runK_go ?_ ?_; (focus (simp; done)); (conv => { arg 4; simp (disch := omega) [if_pos, if_neg, h7, h8, h9, hi', hx, hlen, RF.pv, RF.cells, RF.of, hlt, h3, hs3, frQ, fr] }); (first | refine contK_val ?_ | (refine contK_go ?_; (conv => { arg 5; simp })))) | (refine skip_val rfl ?_ ?_; (focus (simp; done))) | (refine runK_go ?_ ?_; (focus (simp; done)); (conv => { arg 4; simp (disch := omega) [if_pos, if_neg, h7, h8, h9, hi', hx, hlen, RF.pv, RF.cells, RF.of, hlt, h3, hs3, frQ, fr] }); refine callU true rfl rfl ⟨_, Tryz.func50, rfl, rfl⟩ ?_; (conv => { arg 6; simp (disch := omega) [if_pos, if_neg, h7, h8, h9, hi', hx, hlen, RF.pv, RF.cells, RF.of, hlt, h3, hs3, frQ, fr] }); refine callC_go (c2) rfl ?_; (conv => { arg 5; simp (disch := omega) [if_pos, if_neg, h7, h8, h9, hi', hx, hlen, RF.pv, RF.cells, RF.of, hlt, h3, hs3, frQ, fr] })))); with_reducible refine runK_nil ?_; (first | refine ⟨rfl, ?_⟩ | refine ⟨by simp [quietB], by simp [quietU], ?_⟩ | skip)) | (refine WL.cond ?_; (conv => { arg 1; simp (disch := omega) [if_pos, if_neg, h7, h8, h9, hi', hx, hlen, RF.pv, RF.cells, RF.of, hlt, h3, hs3, frQ, fr] }); (first | with_reducible refine condT ?_ | with_reducible refine condF ?_ | with_reducible refine condPT (by omega) ?_ | with_reducible refine condPF (by omega) ?_))))
    exact ⟨l.length - (i + 1), by omega, i + 1, rfl, by omega, by simp [h2], by simp [h3], by simp [h7], by simp [h8], by simp, by simp [hs2], by simp [RF.cells, RF.of]⟩
  · have hia : i = l.length := by omega
    subst hia
    have hq : (qs l).take l.length = qs l := List.take_of_length_le (by simp [qs])
    rw [hq] at hs3
    (repeat (first | with_reducible refine WL.seq ?_ | with_reducible refine WL.skip ?_ | with_reducible refine WL.label ?_ | with_reducible refine WL.block ?_ | with_reducible refine WL.scope ?_ | with_reducible refine WL.nilS ?_ | with_reducible refine WL.reS ?_ | with_reducible refine WL.exS ?_ | with_reducible refine WL.nilB ?_ | with_reducible refine WL.nilT ?_ | with_reducible refine WL.exit ?_ | with_reducible refine WL.ret ?_ | with_reducible refine WL.exT ?_ | with_reducible refine WL.exB ?_ | with_reducible refine WL.exN rfl ?_ | with_reducible refine WL.reT ?_ | with_reducible refine WL.reB ?_ | ((first | refine WL.reg rfl ?_ | refine WL.regT mixed rfl ?_); (conv => { arg 3; simp [prep, prep1] }); (repeat (first | (refine runK_go ?_ ?_; (focus (simp; done)); (conv => { arg 4; simp (disch := omega) [if_pos, if_neg, h8, h9, h3, hs3, h2, hs2, RF.cells, RF.of] }); (first | refine contK_val ?_ | (refine contK_go ?_; (conv => { arg 5; simp })))) | (refine skip_val rfl ?_ ?_; (focus (simp; done))))); with_reducible refine runK_nil ?_; (first | refine ⟨rfl, ?_⟩ | refine ⟨by simp [quietB], by simp [quietU], ?_⟩ | skip)) | (refine WL.cond ?_; (conv => { arg 1; simp (disch := omega) [if_pos, if_neg, h8, h9, h3, hs3, h2, hs2, RF.cells, RF.of] }); (first | with_reducible refine condT ?_ | with_reducible refine condF ?_ | with_reducible refine condPT (by omega) ?_ | with_reducible refine condPF (by omega) ?_))))
    refine ⟨[], ?_⟩
    simp (disch := omega) [if_pos, if_neg, h2, frQ, fr]
end Go.Proofs.YthgldcflcmlgpaaGreatDoorE
end

section
/- Spans: which may be; their rows; the part ahead of a moment. -/
-- x3
set_option linter.unusedVariables false
set_option linter.unusedSimpArgs false
namespace Go.Proofs.YthgldcflcmlgpaaGreatDoorE
open Go.RowKit
set_option maxRecDepth 100000
attribute [local simp] List.getElem?_cons_zero List.getElem?_cons_succ List.getElem?_nil wrap_i64 stOf st0 effF effC evalV evalL upd_n updI_n pv_t pv_c pv_g pv_f ofConst binV binI lenV foldV mx2 mn2 unV convV extractV idxV indexV fieldAddrV fieldV partV sliceV boundsV loadL live storeE appendE srcV litE makeE IntKind.bits copyE boxE allocE flatParts flatCs flatC allParts cellsOf solid leafB fillL frzL buildV fillP placeS eqFl eqCell St.eff St.put wrs callE renP renA renC renI nid newL renB noEff endK endR resA resL resV expP expA expC expN expL expBs expB idx thenQ blockQ wantK wrap_u32 wrap_u64_in beqI bneI w32 wl fdiv_pos Int.natCast_inj

def Spn.right (c : Spn) : Bool := decide (0 < sgnQ c.h.q) && decide ((c.y0.length : Int) ≤ 300) && decide (c.y1.length = c.y0.length) && decide (c.f0.length = c.y0.length) && decide (c.f1.length = c.y0.length)

theorem spanRight (c : Spn) (hh : c.h.ok 68719476736) : CallOk Tryz.prog 20 [c.pv] [] (.bool c.right) [] := by
  have c1 := rfSign hh
  unfold Spn.right
  generalize sgnQ c.h.q = z at *
  obtain ⟨t, h, y0, y1, f0, f1⟩ := c
  simp only [Spn.pv, Spn.cells] at *
  by_cases h1 : 0 < z
  · by_cases h2 : (y0.length : Int) ≤ 300
    · by_cases h3 : y1.length = y0.length
      · by_cases h4 : f0.length = y0.length
        · refine CallOk.of_wl Tryz.func20 rfl rfl rfl (Nat.le_of_ble_eq_true rfl) ?_
          (repeat (first | with_reducible refine WL.seq ?_ | with_reducible refine WL.skip ?_ | with_reducible refine WL.label ?_ | with_reducible refine WL.block ?_ | with_reducible refine WL.scope ?_ | with_reducible refine WL.nilS ?_ | with_reducible refine WL.reS ?_ | with_reducible refine WL.exS ?_ | with_reducible refine WL.nilB ?_ | with_reducible refine WL.nilT ?_ | with_reducible refine WL.exit ?_ | with_reducible refine WL.ret ?_ | with_reducible refine WL.exT ?_ | with_reducible refine WL.exB ?_ | with_reducible refine WL.exN rfl ?_ | with_reducible refine WL.reT ?_ | with_reducible refine WL.reB ?_ | ((first | refine WL.reg rfl ?_ | refine WL.regT mixed rfl ?_); (conv => { arg 3; simp [prep, prep1] }); (repeat (first | (refine runK_go ?_ ?_; (focus (simp; done)); (conv => { arg 4; simp (disch := omega) [if_pos, if_neg, row, RF.pv, RF.cells, h1, h2, h3, h4] }); (first | refine contK_val ?_ | (refine contK_go ?_; (conv => { arg 5; simp })))) | (refine skip_val rfl ?_ ?_; (focus (simp; done))) | (refine runK_go ?_ ?_; (focus (simp; done)); (conv => { arg 4; simp (disch := omega) [if_pos, if_neg, row, RF.pv, RF.cells, h1, h2, h3, h4] }); refine callU true rfl rfl ⟨_, Tryz.func28, rfl, rfl⟩ ?_; (conv => { arg 6; simp (disch := omega) [if_pos, if_neg, row, RF.pv, RF.cells, h1, h2, h3, h4] }); refine callC_go (c1) rfl ?_; (conv => { arg 5; simp (disch := omega) [if_pos, if_neg, row, RF.pv, RF.cells, h1, h2, h3, h4] })))); with_reducible refine runK_nil ?_; (first | refine ⟨rfl, ?_⟩ | refine ⟨by simp [quietB], by simp [quietU], ?_⟩ | skip)) | (refine WL.cond ?_; (conv => { arg 1; simp (disch := omega) [if_pos, if_neg, row, RF.pv, RF.cells, h1, h2, h3, h4] }); (first | with_reducible refine condT ?_ | with_reducible refine condF ?_ | with_reducible refine condPT (by omega) ?_ | with_reducible refine condPF (by omega) ?_))))
          refine ⟨[], ?_⟩
          simp (disch := omega) [if_pos, if_neg, h1, h2, h3, h4]
        · refine CallOk.of_wl Tryz.func20 rfl rfl rfl (Nat.le_of_ble_eq_true rfl) ?_
          (repeat (first | with_reducible refine WL.seq ?_ | with_reducible refine WL.skip ?_ | with_reducible refine WL.label ?_ | with_reducible refine WL.block ?_ | with_reducible refine WL.scope ?_ | with_reducible refine WL.nilS ?_ | with_reducible refine WL.reS ?_ | with_reducible refine WL.exS ?_ | with_reducible refine WL.nilB ?_ | with_reducible refine WL.nilT ?_ | with_reducible refine WL.exit ?_ | with_reducible refine WL.ret ?_ | with_reducible refine WL.exT ?_ | with_reducible refine WL.exB ?_ | with_reducible refine WL.exN rfl ?_ | with_reducible refine WL.reT ?_ | with_reducible refine WL.reB ?_ | ((first | refine WL.reg rfl ?_ | refine WL.regT mixed rfl ?_); (conv => { arg 3; simp [prep, prep1] }); (repeat (first | (refine runK_go ?_ ?_; (focus (simp; done)); (conv => { arg 4; simp (disch := omega) [if_pos, if_neg, row, RF.pv, RF.cells, h1, h2, h3, h4] }); (first | refine contK_val ?_ | (refine contK_go ?_; (conv => { arg 5; simp })))) | (refine skip_val rfl ?_ ?_; (focus (simp; done))) | (refine runK_go ?_ ?_; (focus (simp; done)); (conv => { arg 4; simp (disch := omega) [if_pos, if_neg, row, RF.pv, RF.cells, h1, h2, h3, h4] }); refine callU true rfl rfl ⟨_, Tryz.func28, rfl, rfl⟩ ?_; (conv => { arg 6; simp (disch := omega) [if_pos, if_neg, row, RF.pv, RF.cells, h1, h2, h3, h4] }); refine callC_go (c1) rfl ?_; (conv => { arg 5; simp (disch := omega) [if_pos, if_neg, row, RF.pv, RF.cells, h1, h2, h3, h4] })))); with_reducible refine runK_nil ?_; (first | refine ⟨rfl, ?_⟩ | refine ⟨by simp [quietB], by simp [quietU], ?_⟩ | skip)) | (refine WL.cond ?_; (conv => { arg 1; simp (disch := omega) [if_pos, if_neg, row, RF.pv, RF.cells, h1, h2, h3, h4] }); (first | with_reducible refine condT ?_ | with_reducible refine condF ?_ | with_reducible refine condPT (by omega) ?_ | with_reducible refine condPF (by omega) ?_))))
          refine ⟨[], ?_⟩
          simp (disch := omega) [if_pos, if_neg, h1, h2, h3, h4]
      · refine CallOk.of_wl Tryz.func20 rfl rfl rfl (Nat.le_of_ble_eq_true rfl) ?_
        (repeat (first | with_reducible refine WL.seq ?_ | with_reducible refine WL.skip ?_ | with_reducible refine WL.label ?_ | with_reducible refine WL.block ?_ | with_reducible refine WL.scope ?_ | with_reducible refine WL.nilS ?_ | with_reducible refine WL.reS ?_ | with_reducible refine WL.exS ?_ | with_reducible refine WL.nilB ?_ | with_reducible refine WL.nilT ?_ | with_reducible refine WL.exit ?_ | with_reducible refine WL.ret ?_ | with_reducible refine WL.exT ?_ | with_reducible refine WL.exB ?_ | with_reducible refine WL.exN rfl ?_ | with_reducible refine WL.reT ?_ | with_reducible refine WL.reB ?_ | ((first | refine WL.reg rfl ?_ | refine WL.regT mixed rfl ?_); (conv => { arg 3; simp [prep, prep1] }); (repeat (first | (refine runK_go ?_ ?_; (focus (simp; done)); (conv => { arg 4; simp (disch := omega) [if_pos, if_neg, row, RF.pv, RF.cells, h1, h2, h3] }); (first | refine contK_val ?_ | (refine contK_go ?_; (conv => { arg 5; simp })))) | (refine skip_val rfl ?_ ?_; (focus (simp; done))) | (refine runK_go ?_ ?_; (focus (simp; done)); (conv => { arg 4; simp (disch := omega) [if_pos, if_neg, row, RF.pv, RF.cells, h1, h2, h3] }); refine callU true rfl rfl ⟨_, Tryz.func28, rfl, rfl⟩ ?_; (conv => { arg 6; simp (disch := omega) [if_pos, if_neg, row, RF.pv, RF.cells, h1, h2, h3] }); refine callC_go (c1) rfl ?_; (conv => { arg 5; simp (disch := omega) [if_pos, if_neg, row, RF.pv, RF.cells, h1, h2, h3] })))); with_reducible refine runK_nil ?_; (first | refine ⟨rfl, ?_⟩ | refine ⟨by simp [quietB], by simp [quietU], ?_⟩ | skip)) | (refine WL.cond ?_; (conv => { arg 1; simp (disch := omega) [if_pos, if_neg, row, RF.pv, RF.cells, h1, h2, h3] }); (first | with_reducible refine condT ?_ | with_reducible refine condF ?_ | with_reducible refine condPT (by omega) ?_ | with_reducible refine condPF (by omega) ?_))))
        refine ⟨[], ?_⟩
        simp (disch := omega) [if_pos, if_neg, h1, h2, h3]
    · refine CallOk.of_wl Tryz.func20 rfl rfl rfl (Nat.le_of_ble_eq_true rfl) ?_
      (repeat (first | with_reducible refine WL.seq ?_ | with_reducible refine WL.skip ?_ | with_reducible refine WL.label ?_ | with_reducible refine WL.block ?_ | with_reducible refine WL.scope ?_ | with_reducible refine WL.nilS ?_ | with_reducible refine WL.reS ?_ | with_reducible refine WL.exS ?_ | with_reducible refine WL.nilB ?_ | with_reducible refine WL.nilT ?_ | with_reducible refine WL.exit ?_ | with_reducible refine WL.ret ?_ | with_reducible refine WL.exT ?_ | with_reducible refine WL.exB ?_ | with_reducible refine WL.exN rfl ?_ | with_reducible refine WL.reT ?_ | with_reducible refine WL.reB ?_ | ((first | refine WL.reg rfl ?_ | refine WL.regT mixed rfl ?_); (conv => { arg 3; simp [prep, prep1] }); (repeat (first | (refine runK_go ?_ ?_; (focus (simp; done)); (conv => { arg 4; simp (disch := omega) [if_pos, if_neg, row, RF.pv, RF.cells, h1, h2] }); (first | refine contK_val ?_ | (refine contK_go ?_; (conv => { arg 5; simp })))) | (refine skip_val rfl ?_ ?_; (focus (simp; done))) | (refine runK_go ?_ ?_; (focus (simp; done)); (conv => { arg 4; simp (disch := omega) [if_pos, if_neg, row, RF.pv, RF.cells, h1, h2] }); refine callU true rfl rfl ⟨_, Tryz.func28, rfl, rfl⟩ ?_; (conv => { arg 6; simp (disch := omega) [if_pos, if_neg, row, RF.pv, RF.cells, h1, h2] }); refine callC_go (c1) rfl ?_; (conv => { arg 5; simp (disch := omega) [if_pos, if_neg, row, RF.pv, RF.cells, h1, h2] })))); with_reducible refine runK_nil ?_; (first | refine ⟨rfl, ?_⟩ | refine ⟨by simp [quietB], by simp [quietU], ?_⟩ | skip)) | (refine WL.cond ?_; (conv => { arg 1; simp (disch := omega) [if_pos, if_neg, row, RF.pv, RF.cells, h1, h2] }); (first | with_reducible refine condT ?_ | with_reducible refine condF ?_ | with_reducible refine condPT (by omega) ?_ | with_reducible refine condPF (by omega) ?_))))
      refine ⟨[], ?_⟩
      simp (disch := omega) [if_pos, if_neg, h1, h2]
  · refine CallOk.of_wl Tryz.func20 rfl rfl rfl (Nat.le_of_ble_eq_true rfl) ?_
    (repeat (first | with_reducible refine WL.seq ?_ | with_reducible refine WL.skip ?_ | with_reducible refine WL.label ?_ | with_reducible refine WL.block ?_ | with_reducible refine WL.scope ?_ | with_reducible refine WL.nilS ?_ | with_reducible refine WL.reS ?_ | with_reducible refine WL.exS ?_ | with_reducible refine WL.nilB ?_ | with_reducible refine WL.nilT ?_ | with_reducible refine WL.exit ?_ | with_reducible refine WL.ret ?_ | with_reducible refine WL.exT ?_ | with_reducible refine WL.exB ?_ | with_reducible refine WL.exN rfl ?_ | with_reducible refine WL.reT ?_ | with_reducible refine WL.reB ?_ | ((first | refine WL.reg rfl ?_ | refine WL.regT mixed rfl ?_); (conv => { arg 3; simp [prep, prep1] }); (repeat (first | (refine runK_go ?_ ?_; (focus (simp; done)); (conv => { arg 4; simp (disch := omega) [if_pos, if_neg, row, RF.pv, RF.cells, h1] }); (first | refine contK_val ?_ | (refine contK_go ?_; (conv => { arg 5; simp })))) | (refine skip_val rfl ?_ ?_; (focus (simp; done))) | (refine runK_go ?_ ?_; (focus (simp; done)); (conv => { arg 4; simp (disch := omega) [if_pos, if_neg, row, RF.pv, RF.cells, h1] }); refine callU true rfl rfl ⟨_, Tryz.func28, rfl, rfl⟩ ?_; (conv => { arg 6; simp (disch := omega) [if_pos, if_neg, row, RF.pv, RF.cells, h1] }); refine callC_go (c1) rfl ?_; (conv => { arg 5; simp (disch := omega) [if_pos, if_neg, row, RF.pv, RF.cells, h1] })))); with_reducible refine runK_nil ?_; (first | refine ⟨rfl, ?_⟩ | refine ⟨by simp [quietB], by simp [quietU], ?_⟩ | skip)) | (refine WL.cond ?_; (conv => { arg 1; simp (disch := omega) [if_pos, if_neg, row, RF.pv, RF.cells, h1] }); (first | with_reducible refine condT ?_ | with_reducible refine condF ?_ | with_reducible refine condPT (by omega) ?_ | with_reducible refine condPF (by omega) ?_))))
    refine ⟨[], ?_⟩
    simp (disch := omega) [if_pos, if_neg, h1]

theorem spanRows (c : Spn) : CallOk Tryz.prog 65 [c.pv] [] (.rd [row c.y0, row c.y1, row c.f0, row c.f1] 4) [] := by
  obtain ⟨t, h, y0, y1, f0, f1⟩ := c
  simp only [Spn.pv, Spn.cells] at *
  refine CallOk.of_wl Tryz.func65 rfl rfl rfl (Nat.le_of_ble_eq_true rfl) ?_
  (repeat (first | with_reducible refine WL.seq ?_ | with_reducible refine WL.skip ?_ | with_reducible refine WL.label ?_ | with_reducible refine WL.block ?_ | with_reducible refine WL.scope ?_ | with_reducible refine WL.nilS ?_ | with_reducible refine WL.reS ?_ | with_reducible refine WL.exS ?_ | with_reducible refine WL.nilB ?_ | with_reducible refine WL.nilT ?_ | with_reducible refine WL.exit ?_ | with_reducible refine WL.ret ?_ | with_reducible refine WL.exT ?_ | with_reducible refine WL.exB ?_ | with_reducible refine WL.exN rfl ?_ | with_reducible refine WL.reT ?_ | with_reducible refine WL.reB ?_ | ((first | refine WL.reg rfl ?_ | refine WL.regT mixed rfl ?_); (conv => { arg 3; simp [prep, prep1] }); (repeat (first | (refine runK_go ?_ ?_; (focus (simp; done)); (conv => { arg 4; simp (disch := omega) [if_pos, if_neg, row] }); (first | refine contK_val ?_ | (refine contK_go ?_; (conv => { arg 5; simp })))) | (refine skip_val rfl ?_ ?_; (focus (simp; done))))); with_reducible refine runK_nil ?_; (first | refine ⟨rfl, ?_⟩ | refine ⟨by simp [quietB], by simp [quietU], ?_⟩ | skip)) | (refine WL.cond ?_; (conv => { arg 1; simp (disch := omega) [if_pos, if_neg, row] }); (first | with_reducible refine condT ?_ | with_reducible refine condF ?_ | with_reducible refine condPT (by omega) ?_ | with_reducible refine condPF (by omega) ?_))))
  refine ⟨[], ?_⟩
  simp (disch := omega) [if_pos, if_neg, row]

/-- The part ahead of a moment. -/
def Spn.x (c : Spn) (s : Rat) : Rat := (s - c.t.q) / c.h.q

theorem spanPart (c : Spn) (s : RF) (hs : s.ok 1073741824) (ht : c.t.ok 1073741824) (hh : c.h.ok 1073741824) : CallOk Tryz.prog 61 [c.pv, s.pv] [] (frQ (c.x s.q)) [] := by
  have c1 := rfSub (hs.mono (by decide)) (ht.mono (by decide))
  have h1 := szQ_sub s.q c.t.q
  have h2 := szQ_raw (s := s.neg) hs.wn hs.wd
  have h3 := szQ_raw (s := c.t.neg) ht.wn ht.wd
  have l1 := hs.ln
  have l2 := hs.ld
  have l3 := ht.ln
  have l4 := ht.ld
  have c2 := rfQuo (a := RF.of (s.q - c.t.q)) (b := c.h) (RF.of_ok (by unfold RF.q at *; omega)) (hh.mono (by decide))
  rw [RF.of_q] at c2
  unfold Spn.x
  generalize (s.q - c.t.q) / c.h.q = x at *
  generalize s.q - c.t.q = y at *
  generalize decide (c.h.q ≠ 0) = b at *
  clear h1 h2 h3 l1 l2 l3 l4 hs ht hh
  obtain ⟨t, h, y0, y1, f0, f1⟩ := c
  simp only [Spn.pv, Spn.cells] at *
  refine CallOk.of_wl Tryz.func61 rfl rfl rfl (Nat.le_of_ble_eq_true rfl) ?_
  (repeat (first | with_reducible refine WL.seq ?_ | with_reducible refine WL.skip ?_ | with_reducible refine WL.label ?_ | with_reducible refine WL.block ?_ | with_reducible refine WL.scope ?_ | with_reducible refine WL.nilS ?_ | with_reducible refine WL.reS ?_ | with_reducible refine WL.exS ?_ | with_reducible refine WL.nilB ?_ | with_reducible refine WL.nilT ?_ | with_reducible refine WL.exit ?_ | with_reducible refine WL.ret ?_ | with_reducible refine WL.exT ?_ | with_reducible refine WL.exB ?_ | with_reducible refine WL.exN rfl ?_ | with_reducible refine WL.reT ?_ | with_reducible refine WL.reB ?_ | ((first | refine WL.reg rfl ?_ | refine WL.regT mixed rfl ?_); (conv => { arg 3; simp [prep, prep1] }); (repeat (first | (refine runK_go ?_ ?_; (focus (simp; done)); (conv => { arg 4; simp (disch := omega) [if_pos, if_neg, row, RF.pv, RF.cells, RF.of, frQ, fr] }); (first | refine contK_val ?_ | (refine contK_go ?_; (conv => { arg 5; simp })))) | (refine skip_val rfl ?_ ?_; (focus (simp; done))) | (refine runK_go ?_ ?_; (focus (simp; done)); (conv => { arg 4; simp (disch := omega) [if_pos, if_neg, row, RF.pv, RF.cells, RF.of, frQ, fr] }); refine callU true rfl rfl ⟨_, Tryz.func107, rfl, rfl⟩ ?_; (conv => { arg 6; simp (disch := omega) [if_pos, if_neg, row, RF.pv, RF.cells, RF.of, frQ, fr] }); refine callC_go (c1) rfl ?_; (conv => { arg 5; simp (disch := omega) [if_pos, if_neg, row, RF.pv, RF.cells, RF.of, frQ, fr] })) | (refine runK_go ?_ ?_; (focus (simp; done)); (conv => { arg 4; simp (disch := omega) [if_pos, if_neg, row, RF.pv, RF.cells, RF.of, frQ, fr] }); refine callU true rfl rfl ⟨_, Tryz.func66, rfl, rfl⟩ ?_; (conv => { arg 6; simp (disch := omega) [if_pos, if_neg, row, RF.pv, RF.cells, RF.of, frQ, fr] }); refine callC_go (c2) rfl ?_; (conv => { arg 5; simp (disch := omega) [if_pos, if_neg, row, RF.pv, RF.cells, RF.of, frQ, fr] })))); with_reducible refine runK_nil ?_; (first | refine ⟨rfl, ?_⟩ | refine ⟨by simp [quietB], by simp [quietU], ?_⟩ | skip)) | (refine WL.cond ?_; (conv => { arg 1; simp (disch := omega) [if_pos, if_neg, row, RF.pv, RF.cells, RF.of, frQ, fr] }); (first | with_reducible refine condT ?_ | with_reducible refine condF ?_ | with_reducible refine condPT (by omega) ?_ | with_reducible refine condPF (by omega) ?_))))
  refine ⟨[], ?_⟩
  simp (disch := omega) [if_pos, if_neg, frQ, fr]
end Go.Proofs.YthgldcflcmlgpaaGreatDoorE
end

section
/- Rows: noughts, the same values, the sum of rows each so many times. -/
-- x3
set_option linter.unusedVariables false
set_option linter.unusedSimpArgs false
namespace Go.Proofs.YthgldcflcmlgpaaGreatDoorE
open Go.RowKit
set_option maxRecDepth 100000
attribute [local simp] List.getElem?_cons_zero List.getElem?_cons_succ List.getElem?_nil wrap_i64 stOf st0 effF effC evalV evalL upd_n updI_n pv_t pv_c pv_g pv_f ofConst binV binI lenV foldV mx2 mn2 unV convV extractV idxV indexV fieldAddrV fieldV partV sliceV boundsV loadL live storeE appendE srcV litE makeE IntKind.bits copyE boxE allocE flatParts flatCs flatC allParts cellsOf solid leafB fillL frzL buildV fillP placeS eqFl eqCell St.eff St.put wrs callE renP renA renC renI nid newL renB noEff endK endR resA resL resV expP expA expC expN expL expBs expB idx thenQ blockQ wantK wrap_u32 wrap_u64_in beqI bneI w32 wl fdiv_pos Int.natCast_inj

theorem put3 {P D : List PV} {k : Nat} (x y z a b c : PV) (h : P.length = k) : (P ++ a :: b :: c :: D).take k ++ x :: y :: z :: (P ++ a :: b :: c :: D).drop (k + 3) = (P ++ [x, y, z]) ++ D := by
  subst h
  rw [List.take_left, List.drop_append, Nat.add_sub_cancel_left, List.drop_of_length_le (by omega)]
  simp
theorem drop3 {P D : List PV} {k : Nat} (a b c : PV) (h : P.length = k) : (P ++ a :: b :: c :: D).drop (k + 3) = D := by
  subst h
  rw [List.drop_append, Nat.add_sub_cancel_left, List.drop_of_length_le (by omega)]; rfl
def rawZ (n : Nat) : List PV := (List.replicate n [PV.bool false, PV.rd [] 0, PV.rd [] 0]).flatten
theorem rawZ_len (n : Nat) : (rawZ n).length = n * 3 := by simp [rawZ]
theorem rawZ_succ (n : Nat) : rawZ (n + 1) = .bool false :: .rd [] 0 :: .rd [] 0 :: rawZ n := by simp [rawZ, List.replicate_succ]
def zeroQ (n : Nat) : List Rat := List.replicate n 0

theorem rowZeroO (n : Nat) (h : n ≤ 300) : CallOk Tryz.prog 53 [.int .i64 n] [] (.sl ⟨0, 0, 0⟩ 0 0 n 3) [⟨0, true, true, rowC ((zeroQ n).map RF.of)⟩] := by
  have c1 := fracOf 0 (by omega)
  rw [show ((0 : Int) : Rat) = 0 from rfl] at c1
  have q1 : mn2 (mx2 (n : Int) 0) 300 = (n : Int) := by unfold mn2 mx2; split <;> split <;> omega
  refine CallOk.of_wl Tryz.func53 rfl rfl rfl (Nat.le_of_ble_eq_true rfl) ?_
  (repeat (first | with_reducible refine WL.seq ?_ | with_reducible refine WL.skip ?_ | with_reducible refine WL.label ?_ | with_reducible refine WL.block ?_ | with_reducible refine WL.scope ?_ | with_reducible refine WL.nilS ?_ | with_reducible refine WL.reS ?_ | with_reducible refine WL.exS ?_ | with_reducible refine WL.nilB ?_ | with_reducible refine WL.nilT ?_ | with_reducible refine WL.exit ?_ | with_reducible refine WL.ret ?_ | with_reducible refine WL.exT ?_ | with_reducible refine WL.exB ?_ | with_reducible refine WL.exN rfl ?_ | with_reducible refine WL.reT ?_ | with_reducible refine WL.reB ?_ | ((first | refine WL.reg rfl ?_ | refine WL.regT mixed rfl ?_); (conv => { arg 3; simp [prep, prep1] }); (repeat (first | (refine runK_go ?_ ?_; (focus (simp; done)); (conv => { arg 4; simp (disch := omega) [if_pos, if_neg, q1] }); (first | refine contK_val ?_ | (refine contK_go ?_; (conv => { arg 5; simp })))) | (refine skip_val rfl ?_ ?_; (focus (simp; done))))); with_reducible refine runK_nil ?_; (first | refine ⟨rfl, ?_⟩ | refine ⟨by simp [quietB], by simp [quietU], ?_⟩ | skip)) | (refine WL.cond ?_; (conv => { arg 1; simp (disch := omega) [if_pos, if_neg, q1] }); (first | with_reducible refine condT ?_ | with_reducible refine condF ?_ | with_reducible refine condPT (by omega) ?_ | with_reducible refine condPF (by omega) ?_))))
  refine WL.loop (fun m s => ∃ i : Nat, m = n - i ∧ i ≤ n ∧ s.frame 3 = .sl ⟨9, 0, 0⟩ 0 0 n 3 ∧ s.frame 10 = .int .i64 n ∧ s.frame 11 = .int .i64 i ∧ s.store ⟨9, 0, 0⟩ = some ⟨0, true, true, rowC ((zeroQ i).map RF.of) ++ rawZ (n - i)⟩) n ?_ ?_
  · exact ⟨0, by omega, by omega, by simp, by simp, by simp, by simp [zeroQ, rowC, rawZ]⟩
  rintro m ⟨f, σ, g⟩ ⟨i, rfl, hi, h3, h10, h11, hs⟩
  simp only at h3 h10 h11 hs
  have hlen := rowC_len ((zeroQ i).map RF.of)
  simp only [zeroQ, List.length_map, List.length_replicate] at hlen
  by_cases hi' : i < n
  · obtain ⟨k, hk⟩ : ∃ k, n - i = k + 1 := ⟨n - i - 1, by omega⟩
    rw [hk, rawZ_succ] at hs
    have hz : rowC ((zeroQ (i + 1)).map RF.of) = rowC ((zeroQ i).map RF.of) ++ [.bool false, .rd (ws (nw (0 : Rat).num.natAbs)) (nw (0 : Rat).num.natAbs).length, .rd (ws (nw (0 : Rat).den)) (nw (0 : Rat).den).length] := by
      simp only [zeroQ, List.replicate_succ', List.map_append, rowC_app]; rfl
    have hp := drop3 (P := rowC ((zeroQ i).map RF.of)) (D := rawZ k) (.bool false) (.rd [] 0) (.rd [] 0) (k := i * 3) (by simp only [zeroQ]; exact hlen)
    have hd : decide ((0 : Rat).num < 0) = false := rfl
    have hl2 : ((rowC ((zeroQ i).map RF.of)).length) = i * 3 := by simp only [zeroQ]; exact hlen
    have hl3 := rawZ_len k
    unfold frQ fr at c1
    rw [hd] at c1
    generalize (nw (0 : Rat).num.natAbs) = N at *
    generalize (nw (0 : Rat).den) = D at *
    generalize rowC ((zeroQ i).map RF.of) = A at *
    generalize hA1 : rowC ((zeroQ (i + 1)).map RF.of) = A1 at *
    (repeat (first | with_reducible refine WL.seq ?_ | with_reducible refine WL.skip ?_ | with_reducible refine WL.label ?_ | with_reducible refine WL.block ?_ | with_reducible refine WL.scope ?_ | with_reducible refine WL.nilS ?_ | with_reducible refine WL.reS ?_ | with_reducible refine WL.exS ?_ | with_reducible refine WL.nilB ?_ | with_reducible refine WL.nilT ?_ | with_reducible refine WL.exit ?_ | with_reducible refine WL.ret ?_ | with_reducible refine WL.exT ?_ | with_reducible refine WL.exB ?_ | with_reducible refine WL.exN rfl ?_ | with_reducible refine WL.reT ?_ | with_reducible refine WL.reB ?_ | ((first | refine WL.reg rfl ?_ | refine WL.regT mixed rfl ?_); (conv => { arg 3; simp [prep, prep1] }); (repeat (first | (refine runK_go ?_ ?_; (focus (simp; done)); (conv => { arg 4; simp (disch := omega) [if_pos, if_neg, h10, h11, hi', h3, hs, hl2, hl3, hp] }); (first | refine contK_val ?_ | (refine contK_go ?_; (conv => { arg 5; simp })))) | (refine skip_val rfl ?_ ?_; (focus (simp; done))) | (refine runK_go ?_ ?_; (focus (simp; done)); (conv => { arg 4; simp (disch := omega) [if_pos, if_neg, h10, h11, hi', h3, hs, hl2, hl3, hp] }); refine callU true rfl rfl ⟨_, Tryz.func60, rfl, rfl⟩ ?_; (conv => { arg 6; simp (disch := omega) [if_pos, if_neg, h10, h11, hi', h3, hs, hl2, hl3, hp] }); refine callC_go (c1) rfl ?_; (conv => { arg 5; simp (disch := omega) [if_pos, if_neg, h10, h11, hi', h3, hs, hl2, hl3, hp] })))); with_reducible refine runK_nil ?_; (first | refine ⟨rfl, ?_⟩ | refine ⟨by simp [quietB], by simp [quietU], ?_⟩ | skip)) | (refine WL.cond ?_; (conv => { arg 1; simp (disch := omega) [if_pos, if_neg, h10, h11, hi', h3, hs, hl2, hl3, hp] }); (first | with_reducible refine condT ?_ | with_reducible refine condF ?_ | with_reducible refine condPT (by omega) ?_ | with_reducible refine condPF (by omega) ?_))))
    exact ⟨n - (i + 1), by omega, i + 1, rfl, by omega, by simp [h3], by simp [h10], by simp, by
      have : n - (i + 1) = k := by omega
      simp [this, hA1, hz]⟩
  · have hia : i = n := by omega
    subst hia
    rw [Nat.sub_self] at hs
    have : rawZ 0 = [] := rfl
    rw [this, List.append_nil] at hs
    (repeat (first | with_reducible refine WL.seq ?_ | with_reducible refine WL.skip ?_ | with_reducible refine WL.label ?_ | with_reducible refine WL.block ?_ | with_reducible refine WL.scope ?_ | with_reducible refine WL.nilS ?_ | with_reducible refine WL.reS ?_ | with_reducible refine WL.exS ?_ | with_reducible refine WL.nilB ?_ | with_reducible refine WL.nilT ?_ | with_reducible refine WL.exit ?_ | with_reducible refine WL.ret ?_ | with_reducible refine WL.exT ?_ | with_reducible refine WL.exB ?_ | with_reducible refine WL.exN rfl ?_ | with_reducible refine WL.reT ?_ | with_reducible refine WL.reB ?_ | ((first | refine WL.reg rfl ?_ | refine WL.regT mixed rfl ?_); (conv => { arg 3; simp [prep, prep1] }); (repeat (first | (refine runK_go ?_ ?_; (focus (simp; done)); (conv => { arg 4; simp (disch := omega) [if_pos, if_neg, h10, h11, h3, hs] }); (first | refine contK_val ?_ | (refine contK_go ?_; (conv => { arg 5; simp })))) | (refine skip_val rfl ?_ ?_; (focus (simp; done))))); with_reducible refine runK_nil ?_; (first | refine ⟨rfl, ?_⟩ | refine ⟨by simp [quietB], by simp [quietU], ?_⟩ | skip)) | (refine WL.cond ?_; (conv => { arg 1; simp (disch := omega) [if_pos, if_neg, h10, h11, h3, hs] }); (first | with_reducible refine condT ?_ | with_reducible refine condF ?_ | with_reducible refine condPT (by omega) ?_ | with_reducible refine condPF (by omega) ?_))))
    refine ⟨[⟨9, 0, 0⟩], ?_⟩
    simp (disch := omega) [if_pos, if_neg, hs, idx]
end Go.Proofs.YthgldcflcmlgpaaGreatDoorE
end

section
/- Rows: the same values; the sum of rows, each so many times. -/
-- x3
set_option linter.unusedVariables false
set_option linter.unusedSimpArgs false
namespace Go.Proofs.YthgldcflcmlgpaaGreatDoorE
open Go.RowKit
set_option maxRecDepth 100000
attribute [local simp] List.getElem?_cons_zero List.getElem?_cons_succ List.getElem?_nil wrap_i64 stOf st0 effF effC evalV evalL upd_n updI_n pv_t pv_c pv_g pv_f ofConst binV binI lenV foldV mx2 mn2 unV convV extractV idxV indexV fieldAddrV fieldV partV sliceV boundsV loadL live storeE appendE srcV litE makeE IntKind.bits copyE boxE allocE flatParts flatCs flatC allParts cellsOf solid leafB fillL frzL buildV fillP placeS eqFl eqCell St.eff St.put wrs callE renP renA renC renI nid newL renB noEff endK endR resA resL resV expP expA expC expN expL expBs expB idx thenQ blockQ wantK wrap_u32 wrap_u64_in beqI bneI w32 wl fdiv_pos Int.natCast_inj


theorem rowSame (a b : List RF) (ha : ∀ x ∈ a, x.ok 68719476736) (hb : ∀ x ∈ b, x.ok 68719476736) (la : a.length ≤ 1000000) (lb : b.length ≤ 1000000) :
    CallOk Tryz.prog 31 [row a, row b] [] (.bool (decide (qs a = qs b))) [] := by
  have hla := rowC_len a
  have hlb := rowC_len b
  by_cases hl : a.length = b.length
  · have hlI : ((a.length : Nat) : Int) = b.length := by omega
    refine CallOk.of_wl Tryz.func31 rfl rfl rfl (Nat.le_of_ble_eq_true rfl) ?_
    (repeat (first | with_reducible refine WL.seq ?_ | with_reducible refine WL.skip ?_ | with_reducible refine WL.label ?_ | with_reducible refine WL.block ?_ | with_reducible refine WL.scope ?_ | with_reducible refine WL.nilS ?_ | with_reducible refine WL.reS ?_ | with_reducible refine WL.exS ?_ | with_reducible refine WL.nilB ?_ | with_reducible refine WL.nilT ?_ | with_reducible refine WL.exit ?_ | with_reducible refine WL.ret ?_ | with_reducible refine WL.exT ?_ | with_reducible refine WL.exB ?_ | with_reducible refine WL.exN rfl ?_ | with_reducible refine WL.reT ?_ | with_reducible refine WL.reB ?_ | ((first | refine WL.reg rfl ?_ | refine WL.regT mixed rfl ?_); (conv => { arg 3; simp [prep, prep1] }); (repeat (first | (refine runK_go ?_ ?_; (focus (simp; done)); (conv => { arg 4; simp (disch := omega) [if_pos, if_neg, row, hlI] }); (first | refine contK_val ?_ | (refine contK_go ?_; (conv => { arg 5; simp })))) | (refine skip_val rfl ?_ ?_; (focus (simp; done))))); with_reducible refine runK_nil ?_; (first | refine ⟨rfl, ?_⟩ | refine ⟨by simp [quietB], by simp [quietU], ?_⟩ | skip)) | (refine WL.cond ?_; (conv => { arg 1; simp (disch := omega) [if_pos, if_neg, row, hlI] }); (first | with_reducible refine condT ?_ | with_reducible refine condF ?_ | with_reducible refine condPT (by omega) ?_ | with_reducible refine condPF (by omega) ?_))))
    refine WL.loop (fun m s => ∃ i : Nat, m = a.length - i ∧ i ≤ a.length ∧ s.frame 0 = row a ∧ s.frame 1 = row b ∧ s.frame 12 = .int .i64 a.length ∧ s.frame 13 = .int .i64 i ∧ (qs a).take i = (qs b).take i) a.length ?_ ?_
    · exact ⟨0, by omega, by omega, by simp [row, hl], by simp [row], by simp [hlI], by simp, by simp⟩
    rintro m ⟨f, σ, g⟩ ⟨i, rfl, hi, h0, h1, h12, h13, hq⟩
    simp only at h0 h1 h12 h13
    by_cases hi' : i < a.length
    · have hib : i < b.length := by omega
      have ra := rowC_at hi'
      have rb := rowC_at hib
      have hsa : (qs a).take (i + 1) = (qs a).take i ++ [(a[i]'hi').q] := by
        rw [List.take_succ_eq_append_getElem (by simpa [qs] using hi')]; simp [qs]
      have hsb : (qs b).take (i + 1) = (qs b).take i ++ [(b[i]'hib).q] := by
        rw [List.take_succ_eq_append_getElem (by simpa [qs] using hib)]; simp [qs]
      have c1 := rfSame (ha _ (List.getElem_mem hi')) (hb _ (List.getElem_mem hib))
      have h3a : 3 ≤ (rowC a).length - i * 3 := by omega
      have h3b : 3 ≤ (rowC b).length - i * 3 := by omega
      generalize a[i]'hi' = x at *
      generalize b[i]'hib = y at *
      by_cases he : x.q = y.q
      · (repeat (first | with_reducible refine WL.seq ?_ | with_reducible refine WL.skip ?_ | with_reducible refine WL.label ?_ | with_reducible refine WL.block ?_ | with_reducible refine WL.scope ?_ | with_reducible refine WL.nilS ?_ | with_reducible refine WL.reS ?_ | with_reducible refine WL.exS ?_ | with_reducible refine WL.nilB ?_ | with_reducible refine WL.nilT ?_ | with_reducible refine WL.exit ?_ | with_reducible refine WL.ret ?_ | with_reducible refine WL.exT ?_ | with_reducible refine WL.exB ?_ | with_reducible refine WL.exN rfl ?_ | with_reducible refine WL.reT ?_ | with_reducible refine WL.reB ?_ | ((first | refine WL.reg rfl ?_ | refine WL.regT mixed rfl ?_); (conv => { arg 3; simp [prep, prep1] }); (repeat (first | (refine runK_go ?_ ?_; (focus (simp; done)); (conv => { arg 4; simp (disch := omega) [if_pos, if_neg, h12, h13, hi', hib, h0, h1, row, ra, rb, h3a, h3b, RF.pv, RF.cells, he] }); (first | refine contK_val ?_ | (refine contK_go ?_; (conv => { arg 5; simp })))) | (refine skip_val rfl ?_ ?_; (focus (simp; done))) | (refine runK_go ?_ ?_; (focus (simp; done)); (conv => { arg 4; simp (disch := omega) [if_pos, if_neg, h12, h13, hi', hib, h0, h1, row, ra, rb, h3a, h3b, RF.pv, RF.cells, he] }); refine callU true rfl rfl ⟨_, Tryz.func49, rfl, rfl⟩ ?_; (conv => { arg 6; simp (disch := omega) [if_pos, if_neg, h12, h13, hi', hib, h0, h1, row, ra, rb, h3a, h3b, RF.pv, RF.cells, he] }); refine callC_go (c1) rfl ?_; (conv => { arg 5; simp (disch := omega) [if_pos, if_neg, h12, h13, hi', hib, h0, h1, row, ra, rb, h3a, h3b, RF.pv, RF.cells, he] })))); with_reducible refine runK_nil ?_; (first | refine ⟨rfl, ?_⟩ | refine ⟨by simp [quietB], by simp [quietU], ?_⟩ | skip)) | (refine WL.cond ?_; (conv => { arg 1; simp (disch := omega) [if_pos, if_neg, h12, h13, hi', hib, h0, h1, row, ra, rb, h3a, h3b, RF.pv, RF.cells, he] }); (first | with_reducible refine condT ?_ | with_reducible refine condF ?_ | with_reducible refine condPT (by omega) ?_ | with_reducible refine condPF (by omega) ?_))))
        exact ⟨a.length - (i + 1), by omega, i + 1, rfl, by omega, by simp [h0], by simp [h1], by simp [h12], by simp, by rw [hsa, hsb, hq, he]⟩
      · (repeat (first | with_reducible refine WL.seq ?_ | with_reducible refine WL.skip ?_ | with_reducible refine WL.label ?_ | with_reducible refine WL.block ?_ | with_reducible refine WL.scope ?_ | with_reducible refine WL.nilS ?_ | with_reducible refine WL.reS ?_ | with_reducible refine WL.exS ?_ | with_reducible refine WL.nilB ?_ | with_reducible refine WL.nilT ?_ | with_reducible refine WL.exit ?_ | with_reducible refine WL.ret ?_ | with_reducible refine WL.exT ?_ | with_reducible refine WL.exB ?_ | with_reducible refine WL.exN rfl ?_ | with_reducible refine WL.reT ?_ | with_reducible refine WL.reB ?_ | ((first | refine WL.reg rfl ?_ | refine WL.regT mixed rfl ?_); (conv => { arg 3; simp [prep, prep1] }); (repeat (first | (refine runK_go ?_ ?_; (focus (simp; done)); (conv => { arg 4; simp (disch := omega) [if_pos, if_neg, h12, h13, hi', hib, h0, h1, row, ra, rb, h3a, h3b, RF.pv, RF.cells, he] }); (first | refine contK_val ?_ | (refine contK_go ?_; (conv => { arg 5; simp })))) | (refine skip_val rfl ?_ ?_; (focus (simp; done))) | (refine runK_go ?_ ?_; (focus (simp; done)); (conv => { arg 4; simp (disch := omega) [if_pos, if_neg, h12, h13, hi', hib, h0, h1, row, ra, rb, h3a, h3b, RF.pv, RF.cells, he] }); refine callU true rfl rfl ⟨_, Tryz.func49, rfl, rfl⟩ ?_; (conv => { arg 6; simp (disch := omega) [if_pos, if_neg, h12, h13, hi', hib, h0, h1, row, ra, rb, h3a, h3b, RF.pv, RF.cells, he] }); refine callC_go (c1) rfl ?_; (conv => { arg 5; simp (disch := omega) [if_pos, if_neg, h12, h13, hi', hib, h0, h1, row, ra, rb, h3a, h3b, RF.pv, RF.cells, he] })))); with_reducible refine runK_nil ?_; (first | refine ⟨rfl, ?_⟩ | refine ⟨by simp [quietB], by simp [quietU], ?_⟩ | skip)) | (refine WL.cond ?_; (conv => { arg 1; simp (disch := omega) [if_pos, if_neg, h12, h13, hi', hib, h0, h1, row, ra, rb, h3a, h3b, RF.pv, RF.cells, he] }); (first | with_reducible refine condT ?_ | with_reducible refine condF ?_ | with_reducible refine condPT (by omega) ?_ | with_reducible refine condPF (by omega) ?_))))
        refine ⟨[], ?_⟩
        have hne : ¬ qs a = qs b := fun h => he (by
          have : (qs a).take (i + 1) = (qs b).take (i + 1) := by rw [h]
          rw [hsa, hsb, hq] at this
          simpa using this)
        simp (disch := omega) [if_pos, if_neg, hne]
    · have hia : i = a.length := by omega
      subst hia
      have hqq : qs a = qs b := by
        rwa [List.take_of_length_le (by simp [qs]), List.take_of_length_le (by simp [qs]; omega)] at hq
      (repeat (first | with_reducible refine WL.seq ?_ | with_reducible refine WL.skip ?_ | with_reducible refine WL.label ?_ | with_reducible refine WL.block ?_ | with_reducible refine WL.scope ?_ | with_reducible refine WL.nilS ?_ | with_reducible refine WL.reS ?_ | with_reducible refine WL.exS ?_ | with_reducible refine WL.nilB ?_ | with_reducible refine WL.nilT ?_ | with_reducible refine WL.exit ?_ | with_reducible refine WL.ret ?_ | with_reducible refine WL.exT ?_ | with_reducible refine WL.exB ?_ | with_reducible refine WL.exN rfl ?_ | with_reducible refine WL.reT ?_ | with_reducible refine WL.reB ?_ | ((first | refine WL.reg rfl ?_ | refine WL.regT mixed rfl ?_); (conv => { arg 3; simp [prep, prep1] }); (repeat (first | (refine runK_go ?_ ?_; (focus (simp; done)); (conv => { arg 4; simp (disch := omega) [if_pos, if_neg, h12, h13] }); (first | refine contK_val ?_ | (refine contK_go ?_; (conv => { arg 5; simp })))) | (refine skip_val rfl ?_ ?_; (focus (simp; done))))); with_reducible refine runK_nil ?_; (first | refine ⟨rfl, ?_⟩ | refine ⟨by simp [quietB], by simp [quietU], ?_⟩ | skip)) | (refine WL.cond ?_; (conv => { arg 1; simp (disch := omega) [if_pos, if_neg, h12, h13] }); (first | with_reducible refine condT ?_ | with_reducible refine condF ?_ | with_reducible refine condPT (by omega) ?_ | with_reducible refine condPF (by omega) ?_))))
      refine ⟨[], ?_⟩
      simp (disch := omega) [if_pos, if_neg, hqq]
  · have hne : ¬ qs a = qs b := fun h => hl (by have := congrArg List.length h; simpa [qs] using this)
    have hlI : ¬ ((a.length : Nat) : Int) = b.length := by omega
    refine CallOk.of_wl Tryz.func31 rfl rfl rfl (Nat.le_of_ble_eq_true rfl) ?_
    (repeat (first | with_reducible refine WL.seq ?_ | with_reducible refine WL.skip ?_ | with_reducible refine WL.label ?_ | with_reducible refine WL.block ?_ | with_reducible refine WL.scope ?_ | with_reducible refine WL.nilS ?_ | with_reducible refine WL.reS ?_ | with_reducible refine WL.exS ?_ | with_reducible refine WL.nilB ?_ | with_reducible refine WL.nilT ?_ | with_reducible refine WL.exit ?_ | with_reducible refine WL.ret ?_ | with_reducible refine WL.exT ?_ | with_reducible refine WL.exB ?_ | with_reducible refine WL.exN rfl ?_ | with_reducible refine WL.reT ?_ | with_reducible refine WL.reB ?_ | ((first | refine WL.reg rfl ?_ | refine WL.regT mixed rfl ?_); (conv => { arg 3; simp [prep, prep1] }); (repeat (first | (refine runK_go ?_ ?_; (focus (simp; done)); (conv => { arg 4; simp (disch := omega) [if_pos, if_neg, row, hlI, hl] }); (first | refine contK_val ?_ | (refine contK_go ?_; (conv => { arg 5; simp })))) | (refine skip_val rfl ?_ ?_; (focus (simp; done))))); with_reducible refine runK_nil ?_; (first | refine ⟨rfl, ?_⟩ | refine ⟨by simp [quietB], by simp [quietU], ?_⟩ | skip)) | (refine WL.cond ?_; (conv => { arg 1; simp (disch := omega) [if_pos, if_neg, row, hlI, hl] }); (first | with_reducible refine condT ?_ | with_reducible refine condF ?_ | with_reducible refine condPT (by omega) ?_ | with_reducible refine condPF (by omega) ?_))))
    refine ⟨[], ?_⟩
    simp (disch := omega) [if_pos, if_neg, hne]

/-- A row, and so many times another one. -/
def addRow (c : Rat) (o x : List Rat) : List Rat := List.zipWith (fun u v => u + c * v) o x
def mixQ (n : Nat) (l : List (Rat × List Rat)) : List Rat := l.foldl (fun o p => addRow p.1 o p.2) (zeroQ n)
theorem addRow_len (c : Rat) (o x : List Rat) (h : x.length = o.length) : (addRow c o x).length = o.length := by simp [addRow]; omega
theorem addRow_zero (o x : List Rat) (h : x.length = o.length) : addRow 0 o x = o := by
  unfold addRow
  apply List.ext_getElem (by simp; omega)
  intro i h1 h2
  simp [Rat.zero_mul, Rat.add_zero]
theorem addRow_at (c : Rat) (o x : List Rat) (i : Nat) (h1 : i < o.length) (h2 : i < x.length) : (addRow c o x).take (i + 1) = (addRow c o x).take i ++ [o[i]'h1 + c * x[i]'h2] := by
  rw [List.take_succ_eq_append_getElem (by simp [addRow]; omega)]
  simp [addRow]
theorem mix_snoc (n : Nat) (l : List (Rat × List Rat)) (p : Rat × List Rat) : mixQ n (l ++ [p]) = addRow p.1 (mixQ n l) p.2 := by simp [mixQ]
end Go.Proofs.YthgldcflcmlgpaaGreatDoorE
end

section
/- The sum of rows, each so many times. -/
-- x3
set_option linter.unusedVariables false
set_option linter.unusedSimpArgs false
namespace Go.Proofs.YthgldcflcmlgpaaGreatDoorE
open Go.RowKit
set_option maxRecDepth 100000
attribute [local simp] List.getElem?_cons_zero List.getElem?_cons_succ List.getElem?_nil wrap_i64 stOf st0 effF effC evalV evalL upd_n updI_n pv_t pv_c pv_g pv_f ofConst binV binI lenV foldV mx2 mn2 unV convV extractV idxV indexV fieldAddrV fieldV partV sliceV boundsV loadL live storeE appendE srcV litE makeE IntKind.bits copyE boxE allocE flatParts flatCs flatC allParts cellsOf solid leafB fillL frzL buildV fillP placeS eqFl eqCell St.eff St.put wrs callE renP renA renC renI nid newL renB noEff endK endR resA resL resV expP expA expC expN expL expBs expB idx thenQ blockQ wantK wrap_u32 wrap_u64_in beqI bneI w32 wl fdiv_pos Int.natCast_inj

theorem rowQ_set {l : List Rat} {i : Nat} (q : Rat) (h : i < l.length) (b : Bool) (N D : PV) (hb : (RF.of q).cells = [.bool b, N, D]) :
    (rowC (l.map RF.of)).take (i * 3) ++ .bool b :: N :: D :: (rowC (l.map RF.of)).drop (i * 3 + 3) = rowC ((l.set i q).map RF.of) := by
  have := rowC_set (l := l.map RF.of) (i := i) (RF.of q) (by simpa using h)
  rw [hb] at this
  rw [List.map_set, ← this]
  simp
theorem map_take_drop_set (a o : List Rat) (i : Nat) (x : Rat) (h : i < o.length) (ha : a.length = o.length) (hx : a.take (i + 1) = a.take i ++ [x]) : (a.take i ++ o.drop i).set i x = a.take (i + 1) ++ o.drop (i + 1) := by
  have hl : (a.take i).length = i := by simp; omega
  have e := List.drop_eq_getElem_cons h
  rw [hx, e, List.set_append, if_neg (by omega), hl, Nat.sub_self, List.set_cons_zero, List.append_assoc]
  rfl
theorem szQ_zero : szQ 0 ≤ 1 := by have := szQ_int 0 (by decide); simpa using this

set_option maxHeartbeats 2000000 in
theorem rowMix (cs : List RF) (ls : List (List RF)) (n K : Nat) (hcl : cs.length = ls.length) (hn : n ≤ 300) (hln : ∀ x ∈ ls, x.length = n) (hc : ∀ x ∈ cs, x.ok K) (hx : ∀ l ∈ ls, ∀ x ∈ l, x.ok K) (hK : 1 ≤ K) (hs : (ls.length + 1) * (2 * K + 2) ≤ 1073741824) :
    CallOk Tryz.prog 47 [row cs, .rd (ls.map row) ls.length, .int .i64 n] [] (.tup [rowQ (mixQ n ((qs cs).zip (ls.map qs))), .bool true]) [] := by
  have hKs : K ≤ 1073741824 := by
    have : 1 * (2 * K + 2) ≤ (ls.length + 1) * (2 * K + 2) := Nat.mul_le_mul_right _ (by omega)
    omega
  have hms : ls.length ≤ 1073741824 := by
    have : (ls.length + 1) * 1 ≤ (ls.length + 1) * (2 * K + 2) := Nat.mul_le_mul_left _ (by omega)
    omega
  have hI : ((cs.length : Nat) : Int) = ls.length := by omega
  have hlc := rowC_len cs
  have hnI : (n : Int) ≤ 300 := by omega
  have hn0 : ¬ (n : Int) < 0 := by omega
  have hn3 : ¬ (300 : Int) < (n : Int) := by omega
  have c0 := rowZeroO n hn
  refine CallOk.of_wl Tryz.func47 rfl rfl rfl (Nat.le_of_ble_eq_true rfl) ?_
  (repeat (first | with_reducible refine WL.seq ?_ | with_reducible refine WL.skip ?_ | with_reducible refine WL.label ?_ | with_reducible refine WL.block ?_ | with_reducible refine WL.scope ?_ | with_reducible refine WL.nilS ?_ | with_reducible refine WL.reS ?_ | with_reducible refine WL.exS ?_ | with_reducible refine WL.nilB ?_ | with_reducible refine WL.nilT ?_ | with_reducible refine WL.exit ?_ | with_reducible refine WL.ret ?_ | with_reducible refine WL.exT ?_ | with_reducible refine WL.exB ?_ | with_reducible refine WL.exN rfl ?_ | with_reducible refine WL.reT ?_ | with_reducible refine WL.reB ?_ | ((first | refine WL.reg rfl ?_ | refine WL.regT mixed rfl ?_); (conv => { arg 3; simp [prep, prep1] }); (repeat (first | (refine runK_go ?_ ?_; (focus (simp; done)); (conv => { arg 4; simp (disch := omega) [if_pos, if_neg, row, hI, hn0, hn3] }); (first | refine contK_val ?_ | (refine contK_go ?_; (conv => { arg 5; simp })))) | (refine skip_val rfl ?_ ?_; (focus (simp; done))))); with_reducible refine runK_nil ?_; (first | refine ⟨rfl, ?_⟩ | refine ⟨by simp [quietB], by simp [quietU], ?_⟩ | skip)) | (refine WL.cond ?_; (conv => { arg 1; simp (disch := omega) [if_pos, if_neg, row, hI, hn0, hn3] }); (first | with_reducible refine condT ?_ | with_reducible refine condF ?_ | with_reducible refine condPT (by omega) ?_ | with_reducible refine condPF (by omega) ?_))))
  refine WL.loop (fun m s => ∃ i : Nat, m = ls.length - i ∧ i ≤ ls.length ∧ s.frame 0 = row cs ∧ s.frame 1 = .rd (ls.map row) ls.length ∧ s.frame 2 = .int .i64 n ∧ s.frame 28 = .rd (ls.map row) ls.length ∧ s.frame 29 = .int .i64 ls.length ∧ s.frame 30 = .int .i64 i) ls.length ?_ ?_
  · exact ⟨0, by omega, by omega, by simp [row, hI], by simp [row], by simp, by simp [row], by simp, by simp⟩
  rintro m ⟨f, σ, g⟩ ⟨i, rfl, hi, h0, h1, h2, h28, h29, h30⟩
  simp only at h0 h1 h2 h28 h29 h30
  by_cases hi' : i < ls.length
  · have rl : (ls.map row)[i]? = some (.rd (rowC (ls[i]'hi')) n) := by
      have : (ls[i]'hi').length = n := hln _ (List.getElem_mem hi')
      simp [hi', row, this]
    (repeat (first | with_reducible refine WL.seq ?_ | with_reducible refine WL.skip ?_ | with_reducible refine WL.label ?_ | with_reducible refine WL.block ?_ | with_reducible refine WL.scope ?_ | with_reducible refine WL.nilS ?_ | with_reducible refine WL.reS ?_ | with_reducible refine WL.exS ?_ | with_reducible refine WL.nilB ?_ | with_reducible refine WL.nilT ?_ | with_reducible refine WL.exit ?_ | with_reducible refine WL.ret ?_ | with_reducible refine WL.exT ?_ | with_reducible refine WL.exB ?_ | with_reducible refine WL.exN rfl ?_ | with_reducible refine WL.reT ?_ | with_reducible refine WL.reB ?_ | ((first | refine WL.reg rfl ?_ | refine WL.regT mixed rfl ?_); (conv => { arg 3; simp [prep, prep1] }); (repeat (first | (refine runK_go ?_ ?_; (focus (simp; done)); (conv => { arg 4; simp (disch := omega) [if_pos, if_neg, h28, h29, h30, hi', rl, h2] }); (first | refine contK_val ?_ | (refine contK_go ?_; (conv => { arg 5; simp })))) | (refine skip_val rfl ?_ ?_; (focus (simp; done))))); with_reducible refine runK_nil ?_; (first | refine ⟨rfl, ?_⟩ | refine ⟨by simp [quietB], by simp [quietU], ?_⟩ | skip)) | (refine WL.cond ?_; (conv => { arg 1; simp (disch := omega) [if_pos, if_neg, h28, h29, h30, hi', rl, h2] }); (first | with_reducible refine condT ?_ | with_reducible refine condF ?_ | with_reducible refine condPT (by omega) ?_ | with_reducible refine condPF (by omega) ?_))))
    exact ⟨ls.length - (i + 1), by omega, i + 1, rfl, by omega, by simp [h0], by simp [h1], by simp [h2], by simp [h28], by simp [h29], by simp⟩
  (repeat (first | with_reducible refine WL.seq ?_ | with_reducible refine WL.skip ?_ | with_reducible refine WL.label ?_ | with_reducible refine WL.block ?_ | with_reducible refine WL.scope ?_ | with_reducible refine WL.nilS ?_ | with_reducible refine WL.reS ?_ | with_reducible refine WL.exS ?_ | with_reducible refine WL.nilB ?_ | with_reducible refine WL.nilT ?_ | with_reducible refine WL.exit ?_ | with_reducible refine WL.ret ?_ | with_reducible refine WL.exT ?_ | with_reducible refine WL.exB ?_ | with_reducible refine WL.exN rfl ?_ | with_reducible refine WL.reT ?_ | with_reducible refine WL.reB ?_ | ((first | refine WL.reg rfl ?_ | refine WL.regT mixed rfl ?_); (conv => { arg 3; simp [prep, prep1] }); (repeat (first | (refine runK_go ?_ ?_; (focus (simp; done)); (conv => { arg 4; simp (disch := omega) [if_pos, if_neg, h28, h29, h30, hi', h2, h1, row] }); (first | refine contK_val ?_ | (refine contK_go ?_; (conv => { arg 5; simp })))) | (refine skip_val rfl ?_ ?_; (focus (simp; done))) | (refine runK_go ?_ ?_; (focus (simp; done)); (conv => { arg 4; simp (disch := omega) [if_pos, if_neg, h28, h29, h30, hi', h2, h1, row] }); refine callU true rfl rfl ⟨_, Tryz.func53, rfl, rfl⟩ ?_; (conv => { arg 6; simp (disch := omega) [if_pos, if_neg, h28, h29, h30, hi', h2, h1, row] }); refine callC_go (c0) rfl ?_; (conv => { arg 5; simp (disch := omega) [if_pos, if_neg, h28, h29, h30, hi', h2, h1, row] })))); with_reducible refine runK_nil ?_; (first | refine ⟨rfl, ?_⟩ | refine ⟨by simp [quietB], by simp [quietU], ?_⟩ | skip)) | (refine WL.cond ?_; (conv => { arg 1; simp (disch := omega) [if_pos, if_neg, h28, h29, h30, hi', h2, h1, row] }); (first | with_reducible refine condT ?_ | with_reducible refine condF ?_ | with_reducible refine condPT (by omega) ?_ | with_reducible refine condPF (by omega) ?_))))
  have htl : ∀ k, k < ls.length → (((qs cs).zip (ls.map qs)).take (k + 1)) = (((qs cs).zip (ls.map qs)).take k) ++ [((qs cs).getD k 0, ((ls.map qs).getD k []))] := by
    intro k hk
    have e1 : k < ((qs cs).zip (ls.map qs)).length := by simp [qs]; omega
    rw [List.take_succ_eq_append_getElem e1]
    simp [qs, List.getD_eq_getElem?_getD, hk, show k < cs.length by omega]
  generalize hz : (qs cs).zip (ls.map qs) = Z at *
  refine WL.loop (fun m s => ∃ (k : Nat) (o : List Rat), m = ls.length - k ∧ k ≤ ls.length ∧ s.frame 0 = row cs ∧ s.frame 10 = .sl ⟨40, g 40, 0⟩ 0 0 n 3 ∧ s.frame 41 = .rd (ls.map row) ls.length ∧ s.frame 42 = .int .i64 ls.length ∧ s.frame 43 = .int .i64 k ∧
      s.store ⟨40, g 40, 0⟩ = some ⟨0, true, true, rowC (o.map RF.of)⟩ ∧ o.length = n ∧ o = mixQ n (Z.take k) ∧ ∀ x ∈ o, szQ x ≤ k * (2 * K + 2) + 1) ls.length ?_ ?_
  · refine ⟨0, zeroQ n, by omega, by omega, by simp [h0, row], by simp, by simp, by simp, by simp, by simp, by simp [zeroQ], by simp [mixQ], ?_⟩
    intro x hx
    have := (List.mem_replicate.1 hx).2
    subst this
    have := szQ_zero
    omega
  clear h0 h1 h2 h28 h29 h30 hi' hi
  rintro m ⟨f, σ, g2⟩ ⟨k, o, rfl, hk, h0, h10, h41, h42, h43, hst, hol, ho, hos⟩
  simp only at h0 h10 h41 h42 h43 hst
  by_cases hk' : k < ls.length
  · have hkc : k < cs.length := by omega
    have rl : (ls.map row)[k]? = some (.rd (rowC (ls[k]'hk')) n) := by
      have : (ls[k]'hk').length = n := hln _ (List.getElem_mem hk')
      simp [hk', row, this]
    have hxl : (ls[k]'hk').length = n := hln _ (List.getElem_mem hk')
    have hxo : ∀ y ∈ ls[k]'hk', y.ok K := hx _ (List.getElem_mem hk')
    have hco : (cs[k]'hkc).ok K := hc _ (List.getElem_mem hkc)
    have rc := rowC_at hkc
    have hZ := htl k hk'
    have e1 : (qs cs).getD k 0 = (cs[k]'hkc).q := by simp [qs, List.getD_eq_getElem?_getD, hkc]
    have e2 : (ls.map qs).getD k [] = qs (ls[k]'hk') := by simp [List.getD_eq_getElem?_getD, hk']
    rw [e1, e2] at hZ
    have hZ2 : mixQ n (Z.take (k + 1)) = addRow (cs[k]'hkc).q o (qs (ls[k]'hk')) := by rw [hZ, mix_snoc, ← ho]
    generalize cs[k]'hkc = c at *
    generalize ls[k]'hk' = xr at *
    have hlr := rowC_len xr
    rw [hxl] at hlr
    have cS := rfSign (hco.mono (show K ≤ 68719476736 by omega))
    have eS := sgnQ_zero c.q
    have h3c : 3 ≤ (rowC cs).length - k * 3 := by omega
    have hqxl : (qs xr).length = n := by simp [qs, hxl]
    clear hZ e1 e2 ho
    by_cases hc0 : c.q = 0
    · have hsg : sgnQ c.q = 0 := by rw [hc0]; rfl
      have hadd : addRow c.q o (qs xr) = o := by rw [hc0]; exact addRow_zero _ _ (by omega)
      (repeat (first | with_reducible refine WL.seq ?_ | with_reducible refine WL.skip ?_ | with_reducible refine WL.label ?_ | with_reducible refine WL.block ?_ | with_reducible refine WL.scope ?_ | with_reducible refine WL.nilS ?_ | with_reducible refine WL.reS ?_ | with_reducible refine WL.exS ?_ | with_reducible refine WL.nilB ?_ | with_reducible refine WL.nilT ?_ | with_reducible refine WL.exit ?_ | with_reducible refine WL.ret ?_ | with_reducible refine WL.exT ?_ | with_reducible refine WL.exB ?_ | with_reducible refine WL.exN rfl ?_ | with_reducible refine WL.reT ?_ | with_reducible refine WL.reB ?_ | ((first | refine WL.reg rfl ?_ | refine WL.regT mixed rfl ?_); (conv => { arg 3; simp [prep, prep1] }); (repeat (first | (refine runK_go ?_ ?_; (focus (simp; done)); (conv => { arg 4; simp (disch := omega) [if_pos, if_neg, h42, h43, h0, h41, hk', hkc, rl, rc, row, h3c, RF.pv, RF.cells, hsg] }); (first | refine contK_val ?_ | (refine contK_go ?_; (conv => { arg 5; simp })))) | (refine skip_val rfl ?_ ?_; (focus (simp; done))) | (refine runK_go ?_ ?_; (focus (simp; done)); (conv => { arg 4; simp (disch := omega) [if_pos, if_neg, h42, h43, h0, h41, hk', hkc, rl, rc, row, h3c, RF.pv, RF.cells, hsg] }); refine callU true rfl rfl ⟨_, Tryz.func28, rfl, rfl⟩ ?_; (conv => { arg 6; simp (disch := omega) [if_pos, if_neg, h42, h43, h0, h41, hk', hkc, rl, rc, row, h3c, RF.pv, RF.cells, hsg] }); refine callC_go (cS) rfl ?_; (conv => { arg 5; simp (disch := omega) [if_pos, if_neg, h42, h43, h0, h41, hk', hkc, rl, rc, row, h3c, RF.pv, RF.cells, hsg] })))); with_reducible refine runK_nil ?_; (first | refine ⟨rfl, ?_⟩ | refine ⟨by simp [quietB], by simp [quietU], ?_⟩ | skip)) | (refine WL.cond ?_; (conv => { arg 1; simp (disch := omega) [if_pos, if_neg, h42, h43, h0, h41, hk', hkc, rl, rc, row, h3c, RF.pv, RF.cells, hsg] }); (first | with_reducible refine condT ?_ | with_reducible refine condF ?_ | with_reducible refine condPT (by omega) ?_ | with_reducible refine condPF (by omega) ?_))))
      exact ⟨ls.length - (k + 1), by omega, k + 1, o, rfl, by omega, by simp [h0], by simp [h10], by simp [h41], by simp [h42], by simp, by simp [hst], hol, by rw [hZ2, hadd], fun x hx => Nat.le_trans (hos x hx) (by rw [Nat.succ_mul k]; omega)⟩
    · have hsg : ¬ sgnQ c.q = 0 := by intro h; rw [h] at eS; simp [hc0] at eS
      have hAl := addRow_len c.q o (qs xr) (by omega)
      (repeat (first | with_reducible refine WL.seq ?_ | with_reducible refine WL.skip ?_ | with_reducible refine WL.label ?_ | with_reducible refine WL.block ?_ | with_reducible refine WL.scope ?_ | with_reducible refine WL.nilS ?_ | with_reducible refine WL.reS ?_ | with_reducible refine WL.exS ?_ | with_reducible refine WL.nilB ?_ | with_reducible refine WL.nilT ?_ | with_reducible refine WL.exit ?_ | with_reducible refine WL.ret ?_ | with_reducible refine WL.exT ?_ | with_reducible refine WL.exB ?_ | with_reducible refine WL.exN rfl ?_ | with_reducible refine WL.reT ?_ | with_reducible refine WL.reB ?_ | ((first | refine WL.reg rfl ?_ | refine WL.regT mixed rfl ?_); (conv => { arg 3; simp [prep, prep1] }); (repeat (first | (refine runK_go ?_ ?_; (focus (simp; done)); (conv => { arg 4; simp (disch := omega) [if_pos, if_neg, h42, h43, h0, h41, hk', hkc, rl, rc, row, h3c, RF.pv, RF.cells, hsg] }); (first | refine contK_val ?_ | (refine contK_go ?_; (conv => { arg 5; simp })))) | (refine skip_val rfl ?_ ?_; (focus (simp; done))) | (refine runK_go ?_ ?_; (focus (simp; done)); (conv => { arg 4; simp (disch := omega) [if_pos, if_neg, h42, h43, h0, h41, hk', hkc, rl, rc, row, h3c, RF.pv, RF.cells, hsg] }); refine callU true rfl rfl ⟨_, Tryz.func28, rfl, rfl⟩ ?_; (conv => { arg 6; simp (disch := omega) [if_pos, if_neg, h42, h43, h0, h41, hk', hkc, rl, rc, row, h3c, RF.pv, RF.cells, hsg] }); refine callC_go (cS) rfl ?_; (conv => { arg 5; simp (disch := omega) [if_pos, if_neg, h42, h43, h0, h41, hk', hkc, rl, rc, row, h3c, RF.pv, RF.cells, hsg] })))); with_reducible refine runK_nil ?_; (first | refine ⟨rfl, ?_⟩ | refine ⟨by simp [quietB], by simp [quietU], ?_⟩ | skip)) | (refine WL.cond ?_; (conv => { arg 1; simp (disch := omega) [if_pos, if_neg, h42, h43, h0, h41, hk', hkc, rl, rc, row, h3c, RF.pv, RF.cells, hsg] }); (first | with_reducible refine condT ?_ | with_reducible refine condF ?_ | with_reducible refine condPT (by omega) ?_ | with_reducible refine condPF (by omega) ?_))))
      refine WL.loop (fun m s => ∃ i : Nat, m = n - i ∧ i ≤ n ∧ s.frame 0 = row cs ∧ s.frame 10 = .sl ⟨40, g 40, 0⟩ 0 0 n 3 ∧ s.frame 11 = .int .i64 k ∧ s.frame 41 = .rd (ls.map row) ls.length ∧ s.frame 42 = .int .i64 ls.length ∧ s.frame 43 = .int .i64 k ∧ s.frame 54 = .rd (rowC xr) n ∧ s.frame 55 = .int .i64 n ∧ s.frame 56 = .int .i64 i ∧
          s.store ⟨40, g 40, 0⟩ = some ⟨0, true, true, rowC (((addRow c.q o (qs xr)).take i ++ o.drop i).map RF.of)⟩) n ?_ ?_
      · exact ⟨0, by omega, by omega, by simp [h0, row], by simp [h10], by simp, by simp [h41], by simp [h42], by simp [h43], by simp, by simp, by simp, by simp [hst]⟩
      clear h0 h10 h41 h42 h43 hst
      rintro m ⟨f, σ, g3⟩ ⟨i, rfl, hi, h0, h10, h11, h41, h42, h43, h54, h55, h56, hst⟩
      simp only at h0 h10 h11 h41 h42 h43 h54 h55 h56 hst
      by_cases hin : i < n
      · have hio : i < o.length := by omega
        have hix : i < xr.length := by omega
        have hstep := addRow_at c.q o (qs xr) i hio (by omega)
        have hxq : (qs xr)[i]'(by omega) = (xr[i]'hix).q := by simp [qs]
        rw [hxq] at hstep
        have rx := rowC_at hix
        have hyo := hxo _ (List.getElem_mem hix)
        have huo := hos _ (List.getElem_mem hio)
        have hpl : ((addRow c.q o (qs xr)).take i).length = i := by simp; omega
        have hcl2 : ((addRow c.q o (qs xr)).take i ++ o.drop i).length = n := by simp; omega
        have ro : ((rowC (((addRow c.q o (qs xr)).take i ++ o.drop i).map RF.of)).drop (i * 3)).take 3 = (RF.of (o[i]'hio)).cells := by
          rw [rowQ_at (by omega), List.getElem_append_right (by omega)]
          simp [hpl]
        have hset := map_take_drop_set (addRow c.q o (qs xr)) o i _ hio hAl hstep
        have hlo := rowC_len (((addRow c.q o (qs xr)).take i ++ o.drop i).map RF.of)
        rw [List.length_map, hcl2] at hlo
        have cM := rfMul (hco.mono (show K ≤ 68719476736 by omega)) (hyo.mono (show K ≤ 68719476736 by omega))
        have z1 := szQ_raw (s := c.neg) hco.wn hco.wd
        have z2 := szQ_raw (s := (xr[i]'hix).neg) hyo.wn hyo.wd
        have z3 := szQ_mul c.q (xr[i]'hix).q
        have l1 := hco.ln
        have l2 := hco.ld
        have l3 := hyo.ln
        have l4 := hyo.ld
        have hkm : k * (2 * K + 2) ≤ (ls.length + 1) * (2 * K + 2) := Nat.mul_le_mul_right _ (by omega)
        have cA := qAdd (p := o[i]'hio) (q := c.q * (xr[i]'hix).q) (by omega) (by unfold RF.q at *; omega)
        have hw := fun b N D hb => rowQ_set (l := (addRow c.q o (qs xr)).take i ++ o.drop i) (i := i) (o[i]'hio + c.q * (xr[i]'hix).q) (by omega) b N D hb
        rw [hset] at hw
        have hw := hw _ _ _ rfl
        clear z1 z2 z3 l1 l2 l3 l4 hkm huo hset hstep hxq
        generalize (addRow c.q o (qs xr)).take i ++ o.drop i = cur at *
        generalize hcur1 : (addRow c.q o (qs xr)).take (i + 1) ++ o.drop (i + 1) = cur1 at *
        generalize o[i]'hio + c.q * (xr[i]'hix).q = w at *
        generalize c.q * (xr[i]'hix).q = cx at *
        generalize o[i]'hio = u at *
        generalize xr[i]'hix = y at *
        have h3x : 3 ≤ (rowC xr).length - i * 3 := by omega
        have h3o : 3 ≤ (rowC (cur.map RF.of)).length - i * 3 := by omega
        (repeat (first | with_reducible refine WL.seq ?_ | with_reducible refine WL.skip ?_ | with_reducible refine WL.label ?_ | with_reducible refine WL.block ?_ | with_reducible refine WL.scope ?_ | with_reducible refine WL.nilS ?_ | with_reducible refine WL.reS ?_ | with_reducible refine WL.exS ?_ | with_reducible refine WL.nilB ?_ | with_reducible refine WL.nilT ?_ | with_reducible refine WL.exit ?_ | with_reducible refine WL.ret ?_ | with_reducible refine WL.exT ?_ | with_reducible refine WL.exB ?_ | with_reducible refine WL.exN rfl ?_ | with_reducible refine WL.reT ?_ | with_reducible refine WL.reB ?_ | ((first | refine WL.reg rfl ?_ | refine WL.regT mixed rfl ?_); (conv => { arg 3; simp [prep, prep1] }); (repeat (first | (refine runK_go ?_ ?_; (focus (simp; done)); (conv => { arg 4; simp (disch := omega) [if_pos, if_neg, h55, h56, hin, h54, rx, hlr, h3x] }); (first | refine contK_val ?_ | (refine contK_go ?_; (conv => { arg 5; simp })))) | (refine skip_val rfl ?_ ?_; (focus (simp; done))))); with_reducible refine runK_nil ?_; (first | refine ⟨rfl, ?_⟩ | refine ⟨by simp [quietB], by simp [quietU], ?_⟩ | skip)) | (refine WL.cond ?_; (conv => { arg 1; simp (disch := omega) [if_pos, if_neg, h55, h56, hin, h54, rx, hlr, h3x] }); (first | with_reducible refine condT ?_ | with_reducible refine condF ?_ | with_reducible refine condPT (by omega) ?_ | with_reducible refine condPF (by omega) ?_))))
        simp only [RF.of, wl] at hw
        (repeat (first | with_reducible refine WL.seq ?_ | with_reducible refine WL.skip ?_ | with_reducible refine WL.label ?_ | with_reducible refine WL.block ?_ | with_reducible refine WL.scope ?_ | with_reducible refine WL.nilS ?_ | with_reducible refine WL.reS ?_ | with_reducible refine WL.exS ?_ | with_reducible refine WL.nilB ?_ | with_reducible refine WL.nilT ?_ | with_reducible refine WL.exit ?_ | with_reducible refine WL.ret ?_ | with_reducible refine WL.exT ?_ | with_reducible refine WL.exB ?_ | with_reducible refine WL.exN rfl ?_ | with_reducible refine WL.reT ?_ | with_reducible refine WL.reB ?_ | ((first | refine WL.reg rfl ?_ | refine WL.regT mixed rfl ?_); (conv => { arg 3; simp [prep, prep1] }); (repeat (first | (refine runK_go ?_ ?_; (focus (simp; done)); (conv => { arg 4; simp (disch := omega) [if_pos, if_neg, h10, h11, h0, row, hst, hin, ro, h3o, hlo, hkc, rc, h3c, RF.cells, RF.of, frQ, fr, hw, h56] }); (first | refine contK_val ?_ | (refine contK_go ?_; (conv => { arg 5; simp })))) | (refine skip_val rfl ?_ ?_; (focus (simp; done))) | (refine runK_go ?_ ?_; (focus (simp; done)); (conv => { arg 4; simp (disch := omega) [if_pos, if_neg, h10, h11, h0, row, hst, hin, ro, h3o, hlo, hkc, rc, h3c, RF.cells, RF.of, frQ, fr, hw, h56] }); refine callU true rfl rfl ⟨_, Tryz.func50, rfl, rfl⟩ ?_; (conv => { arg 6; simp (disch := omega) [if_pos, if_neg, h10, h11, h0, row, hst, hin, ro, h3o, hlo, hkc, rc, h3c, RF.cells, RF.of, frQ, fr, hw, h56] }); refine callC_go (cM) rfl ?_; (conv => { arg 5; simp (disch := omega) [if_pos, if_neg, h10, h11, h0, row, hst, hin, ro, h3o, hlo, hkc, rc, h3c, RF.cells, RF.of, frQ, fr, hw, h56] })) | (refine runK_go ?_ ?_; (focus (simp; done)); (conv => { arg 4; simp (disch := omega) [if_pos, if_neg, h10, h11, h0, row, hst, hin, ro, h3o, hlo, hkc, rc, h3c, RF.cells, RF.of, frQ, fr, hw, h56] }); refine callU true rfl rfl ⟨_, Tryz.func29, rfl, rfl⟩ ?_; (conv => { arg 6; simp (disch := omega) [if_pos, if_neg, h10, h11, h0, row, hst, hin, ro, h3o, hlo, hkc, rc, h3c, RF.cells, RF.of, frQ, fr, hw, h56] }); refine callC_go (cA) rfl ?_; (conv => { arg 5; simp (disch := omega) [if_pos, if_neg, h10, h11, h0, row, hst, hin, ro, h3o, hlo, hkc, rc, h3c, RF.cells, RF.of, frQ, fr, hw, h56] })))); with_reducible refine runK_nil ?_; (first | refine ⟨rfl, ?_⟩ | refine ⟨by simp [quietB], by simp [quietU], ?_⟩ | skip)) | (refine WL.cond ?_; (conv => { arg 1; simp (disch := omega) [if_pos, if_neg, h10, h11, h0, row, hst, hin, ro, h3o, hlo, hkc, rc, h3c, RF.cells, RF.of, frQ, fr, hw, h56] }); (first | with_reducible refine condT ?_ | with_reducible refine condF ?_ | with_reducible refine condPT (by omega) ?_ | with_reducible refine condPF (by omega) ?_))))
        exact ⟨n - (i + 1), by omega, i + 1, rfl, by omega, by simp [h0], by simp [h10], by simp [h11], by simp [h41], by simp [h42], by simp [h43], by simp [h54], by simp [h55], by simp, by rw [hcur1]; simp⟩
      · have hii : i = n := by omega
        subst hii
        have ho2 : (addRow c.q o (qs xr)).take i ++ o.drop i = addRow c.q o (qs xr) := by
          rw [List.take_of_length_le (by omega), List.drop_of_length_le (by omega), List.append_nil]
        rw [ho2] at hst
        (repeat (first | with_reducible refine WL.seq ?_ | with_reducible refine WL.skip ?_ | with_reducible refine WL.label ?_ | with_reducible refine WL.block ?_ | with_reducible refine WL.scope ?_ | with_reducible refine WL.nilS ?_ | with_reducible refine WL.reS ?_ | with_reducible refine WL.exS ?_ | with_reducible refine WL.nilB ?_ | with_reducible refine WL.nilT ?_ | with_reducible refine WL.exit ?_ | with_reducible refine WL.ret ?_ | with_reducible refine WL.exT ?_ | with_reducible refine WL.exB ?_ | with_reducible refine WL.exN rfl ?_ | with_reducible refine WL.reT ?_ | with_reducible refine WL.reB ?_ | ((first | refine WL.reg rfl ?_ | refine WL.regT mixed rfl ?_); (conv => { arg 3; simp [prep, prep1] }); (repeat (first | (refine runK_go ?_ ?_; (focus (simp; done)); (conv => { arg 4; simp (disch := omega) [if_pos, if_neg, h55, h56, h43] }); (first | refine contK_val ?_ | (refine contK_go ?_; (conv => { arg 5; simp })))) | (refine skip_val rfl ?_ ?_; (focus (simp; done))))); with_reducible refine runK_nil ?_; (first | refine ⟨rfl, ?_⟩ | refine ⟨by simp [quietB], by simp [quietU], ?_⟩ | skip)) | (refine WL.cond ?_; (conv => { arg 1; simp (disch := omega) [if_pos, if_neg, h55, h56, h43] }); (first | with_reducible refine condT ?_ | with_reducible refine condF ?_ | with_reducible refine condPT (by omega) ?_ | with_reducible refine condPF (by omega) ?_))))
        refine ⟨ls.length - (k + 1), by omega, k + 1, addRow c.q o (qs xr), rfl, by omega, by simp [h0], by simp [h10], by simp [h41], by simp [h42], by simp, by simp [hst], by omega, hZ2.symm, ?_⟩
        intro v hv
        obtain ⟨j, hj, rfl⟩ := List.getElem_of_mem hv
        have hjo : j < o.length := by omega
        have hjx : j < xr.length := by omega
        have hyo := hxo _ (List.getElem_mem hjx)
        have e : (addRow c.q o (qs xr))[j]'hj = o[j]'hjo + c.q * (xr[j]'hjx).q := by simp [addRow, qs]
        have z0 := hos _ (List.getElem_mem hjo)
        have z1 := szQ_raw (s := c.neg) hco.wn hco.wd
        have z2 := szQ_raw (s := (xr[j]'hjx).neg) hyo.wn hyo.wd
        have z3 := szQ_mul c.q (xr[j]'hjx).q
        have z4 := szQ_add (o[j]'hjo) (c.q * (xr[j]'hjx).q)
        have l1 := hco.ln
        have l2 := hco.ld
        have l3 := hyo.ln
        have l4 := hyo.ld
        rw [e, Nat.succ_mul k]
        unfold RF.q at *
        omega
  · have hkk : k = ls.length := by omega
    subst hkk
    have hZl : Z.take ls.length = Z := by
      apply List.take_of_length_le
      rw [← hz]; simp [qs]; omega
    rw [hZl] at ho
    (repeat (first | with_reducible refine WL.seq ?_ | with_reducible refine WL.skip ?_ | with_reducible refine WL.label ?_ | with_reducible refine WL.block ?_ | with_reducible refine WL.scope ?_ | with_reducible refine WL.nilS ?_ | with_reducible refine WL.reS ?_ | with_reducible refine WL.exS ?_ | with_reducible refine WL.nilB ?_ | with_reducible refine WL.nilT ?_ | with_reducible refine WL.exit ?_ | with_reducible refine WL.ret ?_ | with_reducible refine WL.exT ?_ | with_reducible refine WL.exB ?_ | with_reducible refine WL.exN rfl ?_ | with_reducible refine WL.reT ?_ | with_reducible refine WL.reB ?_ | ((first | refine WL.reg rfl ?_ | refine WL.regT mixed rfl ?_); (conv => { arg 3; simp [prep, prep1] }); (repeat (first | (refine runK_go ?_ ?_; (focus (simp; done)); (conv => { arg 4; simp (disch := omega) [if_pos, if_neg, h42, h43, h10, hst] }); (first | refine contK_val ?_ | (refine contK_go ?_; (conv => { arg 5; simp })))) | (refine skip_val rfl ?_ ?_; (focus (simp; done))))); with_reducible refine runK_nil ?_; (first | refine ⟨rfl, ?_⟩ | refine ⟨by simp [quietB], by simp [quietU], ?_⟩ | skip)) | (refine WL.cond ?_; (conv => { arg 1; simp (disch := omega) [if_pos, if_neg, h42, h43, h10, hst] }); (first | with_reducible refine condT ?_ | with_reducible refine condF ?_ | with_reducible refine condPT (by omega) ?_ | with_reducible refine condPF (by omega) ?_))))
    refine ⟨[], ?_⟩
    rw [← ho]
    have hlo := rowC_len (o.map RF.of)
    rw [List.length_map, hol] at hlo
    have htk : (rowC (o.map RF.of)).take (n * 3) = rowC (o.map RF.of) := List.take_of_length_le (by omega)
    simp (disch := omega) [if_pos, if_neg, hst, rowQ, row, htk, hol, hlo]
end Go.Proofs.YthgldcflcmlgpaaGreatDoorE
end

section
/- Rows that are laid out of a few fractions. -/
-- x3
set_option linter.unusedVariables false
set_option linter.unusedSimpArgs false
namespace Go.Proofs.YthgldcflcmlgpaaGreatDoorE
open Go.RowKit
set_option maxRecDepth 100000
attribute [local simp] List.getElem?_cons_zero List.getElem?_cons_succ List.getElem?_nil wrap_i64 stOf st0 effF effC evalV evalL upd_n updI_n pv_t pv_c pv_g pv_f ofConst binV binI lenV foldV mx2 mn2 unV convV extractV idxV indexV fieldAddrV fieldV partV sliceV boundsV loadL live storeE appendE srcV litE makeE IntKind.bits copyE boxE allocE flatParts flatCs flatC allParts cellsOf solid leafB fillL frzL buildV fillP placeS eqFl eqCell St.eff St.put wrs callE renP renA renC renI nid newL renB noEff endK endR resA resL resV expP expA expC expN expL expBs expB idx thenQ blockQ wantK wrap_u32 wrap_u64_in beqI bneI w32 wl fdiv_pos Int.natCast_inj

theorem litF1 (b0 : Bool) (x0 y0 : List PV) (n0 m0 : Nat) (σ : Id → Option Blk) (d g : Nat) : litE Tryz.prog 31 1 [(0, .agg [.bool b0, .rd x0 n0, .rd y0 m0])] σ d g = some ⟨.sl ⟨d, g, 0⟩ 0 0 1 3, [], [(⟨d, g, 0⟩, ⟨0, true, true, [.bool b0, .rd x0 n0, .rd y0 m0]⟩)], true⟩ := by
  simp
theorem litF2 (b0 : Bool) (x0 y0 : List PV) (n0 m0 : Nat) (b1 : Bool) (x1 y1 : List PV) (n1 m1 : Nat) (σ : Id → Option Blk) (d g : Nat) : litE Tryz.prog 31 2 [(0, .agg [.bool b0, .rd x0 n0, .rd y0 m0]), (1, .agg [.bool b1, .rd x1 n1, .rd y1 m1])] σ d g = some ⟨.sl ⟨d, g, 0⟩ 0 0 2 3, [], [(⟨d, g, 0⟩, ⟨0, true, true, [.bool b0, .rd x0 n0, .rd y0 m0, .bool b1, .rd x1 n1, .rd y1 m1]⟩)], true⟩ := by
  simp
theorem litF3 (b0 : Bool) (x0 y0 : List PV) (n0 m0 : Nat) (b1 : Bool) (x1 y1 : List PV) (n1 m1 : Nat) (b2 : Bool) (x2 y2 : List PV) (n2 m2 : Nat) (σ : Id → Option Blk) (d g : Nat) : litE Tryz.prog 31 3 [(0, .agg [.bool b0, .rd x0 n0, .rd y0 m0]), (1, .agg [.bool b1, .rd x1 n1, .rd y1 m1]), (2, .agg [.bool b2, .rd x2 n2, .rd y2 m2])] σ d g = some ⟨.sl ⟨d, g, 0⟩ 0 0 3 3, [], [(⟨d, g, 0⟩, ⟨0, true, true, [.bool b0, .rd x0 n0, .rd y0 m0, .bool b1, .rd x1 n1, .rd y1 m1, .bool b2, .rd x2 n2, .rd y2 m2]⟩)], true⟩ := by
  simp
theorem litF4 (b0 : Bool) (x0 y0 : List PV) (n0 m0 : Nat) (b1 : Bool) (x1 y1 : List PV) (n1 m1 : Nat) (b2 : Bool) (x2 y2 : List PV) (n2 m2 : Nat) (b3 : Bool) (x3 y3 : List PV) (n3 m3 : Nat) (σ : Id → Option Blk) (d g : Nat) : litE Tryz.prog 31 4 [(0, .agg [.bool b0, .rd x0 n0, .rd y0 m0]), (1, .agg [.bool b1, .rd x1 n1, .rd y1 m1]), (2, .agg [.bool b2, .rd x2 n2, .rd y2 m2]), (3, .agg [.bool b3, .rd x3 n3, .rd y3 m3])] σ d g = some ⟨.sl ⟨d, g, 0⟩ 0 0 4 3, [], [(⟨d, g, 0⟩, ⟨0, true, true, [.bool b0, .rd x0 n0, .rd y0 m0, .bool b1, .rd x1 n1, .rd y1 m1, .bool b2, .rd x2 n2, .rd y2 m2, .bool b3, .rd x3 n3, .rd y3 m3]⟩)], true⟩ := by
  simp
end Go.Proofs.YthgldcflcmlgpaaGreatDoorE
end

section
/- The cubic of a span, at a moment. -/
-- x4
set_option linter.unusedVariables false
set_option linter.unusedSimpArgs false
namespace Go.Proofs.YthgldcflcmlgpaaGreatDoorE
open Go.RowKit
set_option maxRecDepth 100000
attribute [local simp] List.getElem?_cons_zero List.getElem?_cons_succ List.getElem?_nil wrap_i64 stOf st0 effF effC evalV evalL upd_n updI_n pv_t pv_c pv_g pv_f ofConst binV binI lenV foldV mx2 mn2 unV convV extractV idxV indexV fieldAddrV fieldV partV sliceV boundsV loadL live storeE appendE srcV litE makeE IntKind.bits copyE boxE allocE flatParts flatCs flatC allParts cellsOf solid leafB fillL frzL buildV fillP placeS eqFl eqCell St.eff St.put wrs callE renP renA renC renI nid newL renB noEff endK endR resA resL resV expP expA expC expN expL expBs expB idx thenQ blockQ wantK wrap_u32 wrap_u64_in beqI bneI w32 wl fdiv_pos Int.natCast_inj effG
attribute [local simp ↓] effG effC evalV evalL pv_t pv_c pv_g pv_f upd_n updI_n live

def Spn.atQ (c : Spn) (s : Rat) : List Rat :=
  mixQ c.y0.length [(prodQ [1 + (-1) * c.x s, 1 + (-1) * c.x s, 1 + 2 * c.x s], qs c.y0), (prodQ [c.x s, c.x s, 3 + (-2) * c.x s], qs c.y1),
    (prodQ [c.h.q, c.x s, 1 + (-1) * c.x s, 1 + (-1) * c.x s], qs c.f0), (prodQ [c.h.q, c.x s, c.x s, -(1 + (-1) * c.x s)], qs c.f1)]
/-- A span whose numbers are of words, and not longer than so many. -/
structure Spn.ok (c : Spn) (K : Nat) : Prop where
  t : c.t.ok K
  h : c.h.ok K
  y0 : ∀ x ∈ c.y0, x.ok K
  y1 : ∀ x ∈ c.y1, x.ok K
  f0 : ∀ x ∈ c.f0, x.ok K
  f1 : ∀ x ∈ c.f1, x.ok K
theorem szX (c : Spn) (s : RF) (hs : s.ok 65536) (hc : c.ok 65536) : szQ (c.x s.q) ≤ 200000 := by
  have h1 := szQ_sub s.q c.t.q
  have h2 := szQ_div (s.q - c.t.q) c.h.q
  have h3 := hs.sz (by decide)
  have h4 := hc.t.sz (by decide)
  have h5 := hc.h.sz (by decide)
  unfold Spn.x; omega
theorem szLin (a b : Int) (q : Rat) (ha : a.natAbs < 4294967296) (hb : b.natAbs < 4294967296) (hq : szQ q ≤ 200000) : szQ (a + b * q) ≤ 200010 := by
  have h1 := szQ_int a ha
  have h2 := szQ_int b hb
  have h3 := szQ_mul (b : Rat) q
  have h4 := szQ_add (a : Rat) (b * q)
  omega
theorem RF.cells_of (q : Rat) : (RF.of q).cells = [.bool (decide (q.num < 0)), .rd (ws (nw q.num.natAbs)) (nw q.num.natAbs).length, .rd (ws (nw q.den)) (nw q.den).length] := rfl
theorem szProd (l : List RF) (h : ∀ x ∈ l, x.ok 200010) (hl : l.length ≤ 4) : szQ (prodQ (qs l)) ≤ 1000000 := by
  have := szQ_prod 200010 (by decide) l h l.length (Nat.le_refl _)
  rw [List.take_of_length_le (by simp [qs])] at this
  have h2 : l.length * 200010 ≤ 4 * 200010 := Nat.mul_le_mul_right _ hl
  omega
theorem right_spec {c : Spn} (h : c.right = true) : 0 < sgnQ c.h.q ∧ c.y0.length ≤ 300 ∧ c.y1.length = c.y0.length ∧ c.f0.length = c.y0.length ∧ c.f1.length = c.y0.length := by
  simp only [Spn.right, Bool.and_eq_true, decide_eq_true_eq] at h
  obtain ⟨⟨⟨⟨a, b⟩, c⟩, d⟩, e⟩ := h
  exact ⟨a, by omega, c, d, e⟩

set_option maxHeartbeats 4000000 in
theorem spanAt (c : Spn) (s : RF) (hr : c.right = true) (hs : s.ok 65536) (hc : c.ok 65536) : CallOk Tryz.prog 14 [c.pv, s.pv] [] (.tup [rowQ (c.atQ s.q), .bool true]) [] := by
  obtain ⟨r1, r2, r3, r4, r5⟩ := right_spec hr
  have k0 := spanRight c (hc.h.mono (by decide))
  rw [hr] at k0
  have k1 := spanPart c s (hs.mono (by decide)) (hc.t.mono (by decide)) (hc.h.mono (by decide))
  have zx := szX c s hs hc
  have k9 := spanRows c
  unfold Spn.atQ
  generalize c.x s.q = x at *
  have k2 := spanLinear 1 (-1) x (by decide) (by decide) (by omega)
  have z2 := szLin 1 (-1) x (by decide) (by decide) zx
  have k3 := spanLinear 1 2 x (by decide) (by decide) (by omega)
  have z3 := szLin 1 2 x (by decide) (by decide) zx
  have k4 := spanLinear 3 (-2) x (by decide) (by decide) (by omega)
  have z4 := szLin 3 (-2) x (by decide) (by decide) zx
  rw [show ((1 : Int) : Rat) + ((-1 : Int) : Rat) * x = 1 + (-1) * x from rfl] at k2 z2
  rw [show ((1 : Int) : Rat) + ((2 : Int) : Rat) * x = 1 + 2 * x from rfl] at k3 z3
  rw [show ((3 : Int) : Rat) + ((-2 : Int) : Rat) * x = 3 + (-2) * x from rfl] at k4 z4
  generalize (1 : Rat) + (-1) * x = y at *
  generalize (1 : Rat) + 2 * x = l1 at *
  generalize (3 : Rat) + (-2) * x = l2 at *
  have ox : (RF.of x).ok 200010 := RF.of_ok (by omega)
  have oy : (RF.of y).ok 200010 := RF.of_ok (by omega)
  have on : (RF.of (-y)).ok 200010 := RF.of_ok (by rw [szQ_neg]; omega)
  have o1 : (RF.of l1).ok 200010 := RF.of_ok (by omega)
  have o2 : (RF.of l2).ok 200010 := RF.of_ok (by omega)
  have oh : c.h.ok 200010 := hc.h.mono (by decide)
  have a5 : ∀ z ∈ [RF.of y, RF.of y, RF.of l1], z.ok 200010 := by intro z hz; simp at hz; rcases hz with rfl | rfl | rfl <;> assumption
  have a6 : ∀ z ∈ [RF.of x, RF.of x, RF.of l2], z.ok 200010 := by intro z hz; simp at hz; rcases hz with rfl | rfl | rfl <;> assumption
  have a7 : ∀ z ∈ [c.h, RF.of x, RF.of y, RF.of y], z.ok 200010 := by intro z hz; simp at hz; rcases hz with rfl | rfl | rfl | rfl <;> assumption
  have a8 : ∀ z ∈ [c.h, RF.of x, RF.of x, RF.of (-y)], z.ok 200010 := by intro z hz; simp at hz; rcases hz with rfl | rfl | rfl | rfl <;> assumption
  have k5 := spanTimes [RF.of y, RF.of y, RF.of l1] 200010 (by decide) a5 (by simp)
  have k6 := spanTimes [RF.of x, RF.of x, RF.of l2] 200010 (by decide) a6 (by simp)
  have k7 := spanTimes [c.h, RF.of x, RF.of y, RF.of y] 200010 (by decide) a7 (by simp)
  have k8 := spanTimes [c.h, RF.of x, RF.of x, RF.of (-y)] 200010 (by decide) a8 (by simp)
  have kn := qNeg (p := y) (by omega)
  have z5 := szProd _ a5 (by simp)
  have z6 := szProd _ a6 (by simp)
  have z7 := szProd _ a7 (by simp)
  have z8 := szProd _ a8 (by simp)
  simp only [qs, List.map_cons, List.map_nil, RF.of_q] at k5 k6 k7 k8 z5 z6 z7 z8
  clear a5 a6 a7 a8
  generalize prodQ [y, y, l1] = w0 at *
  generalize prodQ [x, x, l2] = w1 at *
  generalize prodQ [c.h.q, x, y, y] = w2 at *
  generalize prodQ [c.h.q, x, x, -y] = w3 at *
  have kM := rowMix [RF.of w0, RF.of w1, RF.of w2, RF.of w3] [c.y0, c.y1, c.f0, c.f1] c.y0.length 1000000 rfl (by omega)
    (by intro l hl; simp at hl; rcases hl with rfl | rfl | rfl | rfl <;> first | rfl | assumption)
    (by intro z hz; simp at hz; rcases hz with rfl | rfl | rfl | rfl <;> exact RF.of_ok (by assumption))
    (by intro l hl z hz; simp at hl; rcases hl with rfl | rfl | rfl | rfl
        · exact (hc.y0 _ hz).mono (by decide)
        · exact (hc.y1 _ hz).mono (by decide)
        · exact (hc.f0 _ hz).mono (by decide)
        · exact (hc.f1 _ hz).mono (by decide)) (by decide) (by simp)
  simp only [qs, List.map_cons, List.map_nil, RF.of_q, List.zip_cons_cons, List.zip_nil_right, List.length_cons, List.length_nil] at kM
  simp only [qs]
  have hb : c.y0.length ≤ 300 := r2
  clear z2 z3 z4 z5 z6 z7 z8 zx ox oy on o1 o2 oh hs hc hr r1 r2 r3 r4 r5
  generalize -y = y2 at *
  generalize mixQ c.y0.length _ = R at *
  obtain ⟨t, h, y0, y1, f0, f1⟩ := c
  simp only [Spn.pv, Spn.cells] at *
  refine CallOk.of_wl Tryz.func14 rfl rfl rfl (Nat.le_of_ble_eq_true rfl) ?_
  (repeat (first | with_reducible refine WL.seq ?_ | with_reducible refine WL.skip ?_ | with_reducible refine WL.label ?_ | with_reducible refine WL.block ?_ | with_reducible refine WL.scope ?_ | with_reducible refine WL.nilS ?_ | with_reducible refine WL.reS ?_ | with_reducible refine WL.exS ?_ | with_reducible refine WL.nilB ?_ | with_reducible refine WL.nilT ?_ | with_reducible refine WL.exit ?_ | with_reducible refine WL.ret ?_ | with_reducible refine WL.exT ?_ | with_reducible refine WL.exB ?_ | with_reducible refine WL.exN rfl ?_ | with_reducible refine WL.reT ?_ | with_reducible refine WL.reB ?_ | ((first | refine WL.reg rfl ?_ | refine WL.regT mixed rfl ?_); (conv => { arg 3; simp [prep, prep1] }); (repeat (first | (refine runK_call ⟨_, Tryz.func20, rfl, rfl⟩ ?_ ?_; (first | rfl | focus (simp; done)); (conv => { arg 6; simp (disch := omega) [if_pos, if_neg, -litE, litF1, litF2, litF3, litF4, row, RF.pv, RF.cells, frQ, fr, RF.of] }); (first | refine callV0 (k0) rfl ?_ | (refine callV1 (k0) rfl ?_; (conv => { arg 1; simp }); refine frz1_go ?_))) | (refine runK_call ⟨_, Tryz.func61, rfl, rfl⟩ ?_ ?_; (first | rfl | focus (simp; done)); (conv => { arg 6; simp (disch := omega) [if_pos, if_neg, -litE, litF1, litF2, litF3, litF4, row, RF.pv, RF.cells, frQ, fr, RF.of] }); (first | refine callV0 (k1) rfl ?_ | (refine callV1 (k1) rfl ?_; (conv => { arg 1; simp }); refine frz1_go ?_))) | (refine runK_call ⟨_, Tryz.func62, rfl, rfl⟩ ?_ ?_; (first | rfl | focus (simp; done)); (conv => { arg 6; simp (disch := omega) [if_pos, if_neg, -litE, litF1, litF2, litF3, litF4, row, RF.pv, RF.cells, frQ, fr, RF.of] }); (first | refine callV0 (k2) rfl ?_ | (refine callV1 (k2) rfl ?_; (conv => { arg 1; simp }); refine frz1_go ?_))) | (refine runK_goM ?_ ?_; (first | rfl | focus (simp; done)); (conv => { arg 4; simp (disch := omega) [if_pos, if_neg, -litE, litF1, litF2, litF3, litF4, row, RF.pv, RF.cells, frQ, fr, RF.of] }); (first | refine contK_val ?_ | refine contK_w1 ?_ | (refine contK_w1b ?_; (conv => { arg 5; arg 3; simp })) | refine contK_n1 ?_ | (refine contK_go ?_; (conv => { arg 5; simp })))) | (refine skip_val rfl ?_ ?_; (focus (simp; done))))); with_reducible refine runK_nil ?_; (first | refine ⟨rfl, ?_⟩ | refine ⟨by simp [quietB], by simp [quietU], ?_⟩ | skip)) | (refine WL.cond ?_; (conv => { arg 1; simp (disch := omega) [if_pos, if_neg, -litE, litF1, litF2, litF3, litF4, row, RF.pv, RF.cells, frQ, fr, RF.of] }); (first | with_reducible refine condT ?_ | with_reducible refine condF ?_ | with_reducible refine condPT (by omega) ?_ | with_reducible refine condPF (by omega) ?_))))
  clear k0 k1 k2
  (repeat (first | with_reducible refine WL.seq ?_ | with_reducible refine WL.skip ?_ | with_reducible refine WL.label ?_ | with_reducible refine WL.block ?_ | with_reducible refine WL.scope ?_ | with_reducible refine WL.nilS ?_ | with_reducible refine WL.reS ?_ | with_reducible refine WL.exS ?_ | with_reducible refine WL.nilB ?_ | with_reducible refine WL.nilT ?_ | with_reducible refine WL.exit ?_ | with_reducible refine WL.ret ?_ | with_reducible refine WL.exT ?_ | with_reducible refine WL.exB ?_ | with_reducible refine WL.exN rfl ?_ | with_reducible refine WL.reT ?_ | with_reducible refine WL.reB ?_ | ((first | refine WL.reg rfl ?_ | refine WL.regT mixed rfl ?_); (conv => { arg 3; simp [prep, prep1] }); (repeat (first | (refine runK_call ⟨_, Tryz.func62, rfl, rfl⟩ ?_ ?_; (first | rfl | focus (simp; done)); (conv => { arg 6; simp (disch := omega) [if_pos, if_neg, -litE, litF1, litF2, litF3, litF4, row, RF.pv, RF.cells, frQ, fr, RF.of] }); (first | refine callV0 (k3) rfl ?_ | (refine callV1 (k3) rfl ?_; (conv => { arg 1; simp }); refine frz1_go ?_))) | (refine runK_call ⟨_, Tryz.func63, rfl, rfl⟩ ?_ ?_; (first | rfl | focus (simp; done)); (conv => { arg 6; simp (disch := omega) [if_pos, if_neg, -litE, litF1, litF2, litF3, litF4, row, RF.pv, RF.cells, frQ, fr, RF.of] }); (first | refine callV0 (k5) rfl ?_ | (refine callV1 (k5) rfl ?_; (conv => { arg 1; simp }); refine frz1_go ?_))) | (refine runK_call ⟨_, Tryz.func62, rfl, rfl⟩ ?_ ?_; (first | rfl | focus (simp; done)); (conv => { arg 6; simp (disch := omega) [if_pos, if_neg, -litE, litF1, litF2, litF3, litF4, row, RF.pv, RF.cells, frQ, fr, RF.of] }); (first | refine callV0 (k4) rfl ?_ | (refine callV1 (k4) rfl ?_; (conv => { arg 1; simp }); refine frz1_go ?_))) | (refine runK_call ⟨_, Tryz.func63, rfl, rfl⟩ ?_ ?_; (first | rfl | focus (simp; done)); (conv => { arg 6; simp (disch := omega) [if_pos, if_neg, -litE, litF1, litF2, litF3, litF4, row, RF.pv, RF.cells, frQ, fr, RF.of] }); (first | refine callV0 (k6) rfl ?_ | (refine callV1 (k6) rfl ?_; (conv => { arg 1; simp }); refine frz1_go ?_))) | (refine runK_call ⟨_, Tryz.func63, rfl, rfl⟩ ?_ ?_; (first | rfl | focus (simp; done)); (conv => { arg 6; simp (disch := omega) [if_pos, if_neg, -litE, litF1, litF2, litF3, litF4, row, RF.pv, RF.cells, frQ, fr, RF.of] }); (first | refine callV0 (k7) rfl ?_ | (refine callV1 (k7) rfl ?_; (conv => { arg 1; simp }); refine frz1_go ?_))) | (refine runK_call ⟨_, Tryz.func64, rfl, rfl⟩ ?_ ?_; (first | rfl | focus (simp; done)); (conv => { arg 6; simp (disch := omega) [if_pos, if_neg, -litE, litF1, litF2, litF3, litF4, row, RF.pv, RF.cells, frQ, fr, RF.of] }); (first | refine callV0 (kn) rfl ?_ | (refine callV1 (kn) rfl ?_; (conv => { arg 1; simp }); refine frz1_go ?_))) | (refine runK_call ⟨_, Tryz.func63, rfl, rfl⟩ ?_ ?_; (first | rfl | focus (simp; done)); (conv => { arg 6; simp (disch := omega) [if_pos, if_neg, -litE, litF1, litF2, litF3, litF4, row, RF.pv, RF.cells, frQ, fr, RF.of] }); (first | refine callV0 (k8) rfl ?_ | (refine callV1 (k8) rfl ?_; (conv => { arg 1; simp }); refine frz1_go ?_))) | (refine runK_call ⟨_, Tryz.func65, rfl, rfl⟩ ?_ ?_; (first | rfl | focus (simp; done)); (conv => { arg 6; simp (disch := omega) [if_pos, if_neg, -litE, litF1, litF2, litF3, litF4, row, RF.pv, RF.cells, frQ, fr, RF.of] }); (first | refine callV0 (k9) rfl ?_ | (refine callV1 (k9) rfl ?_; (conv => { arg 1; simp }); refine frz1_go ?_))) | (refine runK_call ⟨_, Tryz.func47, rfl, rfl⟩ ?_ ?_; (first | rfl | focus (simp; done)); (conv => { arg 6; simp (disch := omega) [if_pos, if_neg, -litE, litF1, litF2, litF3, litF4, row, RF.pv, RF.cells, frQ, fr, RF.of] }); (first | refine callV0 (kM) rfl ?_ | (refine callV1 (kM) rfl ?_; (conv => { arg 1; simp }); refine frz1_go ?_))) | (refine runK_goM ?_ ?_; (first | rfl | focus (simp; done)); (conv => { arg 4; simp (disch := omega) [if_pos, if_neg, -litE, litF1, litF2, litF3, litF4, row, RF.pv, RF.cells, frQ, fr, RF.of] }); (first | refine contK_val ?_ | refine contK_w1 ?_ | (refine contK_w1b ?_; (conv => { arg 5; arg 3; simp })) | refine contK_n1 ?_ | (refine contK_go ?_; (conv => { arg 5; simp })))) | (refine skip_val rfl ?_ ?_; (focus (simp; done))))); with_reducible refine runK_nil ?_; (first | refine ⟨rfl, ?_⟩ | refine ⟨by simp [quietB], by simp [quietU], ?_⟩ | skip)) | (refine WL.cond ?_; (conv => { arg 1; simp (disch := omega) [if_pos, if_neg, -litE, litF1, litF2, litF3, litF4, row, RF.pv, RF.cells, frQ, fr, RF.of] }); (first | with_reducible refine condT ?_ | with_reducible refine condF ?_ | with_reducible refine condPT (by omega) ?_ | with_reducible refine condPF (by omega) ?_))))
  refine ⟨[], ?_⟩
  simp (disch := omega) [if_pos, if_neg, rowQ, row]
end Go.Proofs.YthgldcflcmlgpaaGreatDoorE
end
