/-
  The statement 'Rows.KeepPilesSaid': for every input, retrospectlaw43.KeepPiles returns true, and its argument reads as before. No condition.
-/
import Derived.Test.YtabofinagjdljaaWi
import Derived.Test.YtabofinagjdljaaEu
set_option linter.unusedVariables false
set_option linter.unusedSimpArgs false
namespace Go.Proofs.Ytabofinagjdljaa.keepPiles
open Go.ChangeShapes Go.WideShapes Go.ChangeAt Go.RowKit Go.Proofs.YtabofinagjdljaaE

theorem own : ownKnob Try.prog.godebug = none := by kernel_rfl
theorem laidOut : laidOutB Try.prog = true := by kernel_rfl
theorem closed : closedB Try.prog [31, 35, 22, 3] = true := by kernel_rfl

/-- A list of numbers, as a tree. -/
theorem ints_of {n : Nat} {M : List PV} {len : Nat} (hM : M.length = len * Try.prog.cellsOf 3) (h : ∀ i, i < len → Shape Try.prog n 3 ((M.drop (i * Try.prog.cellsOf 3)).take (Try.prog.cellsOf 3))) : ∃ A : List Int, M = ints A ∧ A.length = len := by
  have h3 : Try.prog.cellsOf 3 = 1 := by kernel_rfl
  simp only [h3, Nat.mul_one] at hM h
  have key : ∀ i (hi : i < M.length), ∃ x, M[i]'hi = .int .i64 x := by
    intro i hi
    have := h i (by omega)
    cases n with
    | zero => exact this.elim
    | succ n =>
      unfold Shape at this
      rw [Try.underlying3] at this
      obtain ⟨x, hx, _⟩ := this
      refine ⟨x, ?_⟩
      have e := congrArg (fun l => l[0]?) hx
      simp only [List.getElem?_take, List.getElem?_drop, Nat.add_zero] at e
      rw [if_pos (by omega), List.getElem?_eq_getElem hi] at e
      simpa using e
  have key2 : ∀ M : List PV, (∀ i (hi : i < M.length), ∃ x, M[i]'hi = .int .i64 x) → ∃ A : List Int, M = ints A := by
    intro M
    induction M with
    | nil => intro _; exact ⟨[], rfl⟩
    | cons p r ih =>
      intro h
      obtain ⟨x, hx⟩ := h 0 (by simp)
      obtain ⟨A, hA⟩ := ih fun i hi => by
        have := h (i + 1) (by simpa using hi)
        simpa using this
      refine ⟨x :: A, ?_⟩
      simp only [List.getElem_cons_zero] at hx
      rw [hx, hA]; rfl
  obtain ⟨A, hA⟩ := key2 M key
  exact ⟨A, hA, by rw [← hM, hA]; simp⟩

theorem piles_nil : CallOk Try.prog 4 [.nilS] [] (.bool true) [] := by
  refine CallOk.of_wpK Try.func4 rfl rfl rfl (Nat.le_of_ble_eq_true rfl) ?_
  refine WP.seq (WP.reg rfl ?_)
  conv => { arg 3; simp [prep, prep1] }
  repeat (first | (refine runK_go ?_ ?_; (focus (simp [wantK, upd_at]; done)); (conv => { arg 4; simp (disch := omega) [wrap_i64, if_pos, stOf, List.getElem?_cons_zero, List.getElem?_cons_succ, List.getElem?_nil, st0, effF, effC, evalV, evalL, upd_at, updI_at, pv, ofConst, binV, binI, lenV, foldV, mx2, mn2, unV, extractV, idxV, fieldAddrV, sliceV, boundsV, loadL, live, storeE, appendE, srcV, litE, allocE, flatParts, flatCs, flatC, allParts, cellsOf, solid, leafB, fillL, frzL, buildV, fillP, placeS, eqFl, eqCell] }); refine contK_go ?_; (conv => { arg 5; simp only [st0, St.eff, St.put, wrs, List.foldr_cons, List.foldr_nil, List.foldr, Option.getD_some, Bool.false_eq_true, reduceIte, noEff, callE, renP, renA, renC, renI, nid, newL, renB, List.map_cons, List.map_nil, List.getElem?_cons_zero, List.getElem?_cons_succ, List.getElem?_nil, Option.getD_none, List.append_nil, List.nil_append, List.cons_append, List.length_cons, List.length_nil, Nat.reduceAdd, Nat.reduceLT, Nat.lt_irrefl, decide_true, decide_false, Nat.zero_add, frzL, List.filterMap_nil] })) | (refine runK_skip ?_ ?_; (focus (simp [wantK, upd_at]; done)); (conv => { arg 5; simp only [st0, St.eff, St.put, wrs, List.foldr_cons, List.foldr_nil, List.foldr, Option.getD_some, Bool.false_eq_true, reduceIte, noEff, callE, renP, renA, renC, renI, nid, newL, renB, List.map_cons, List.map_nil, List.getElem?_cons_zero, List.getElem?_cons_succ, List.getElem?_nil, Option.getD_none, List.append_nil, List.nil_append, List.cons_append, List.length_cons, List.length_nil, Nat.reduceAdd, Nat.reduceLT, Nat.lt_irrefl, decide_true, decide_false, Nat.zero_add, frzL, List.filterMap_nil] })))
  refine runK_nil ?_
  refine WP.seq (WP.seq (WP.reg rfl ?_))
  conv => { arg 3; simp [prep, prep1] }
  repeat (first | (refine runK_go ?_ ?_; (focus (simp [wantK, upd_at]; done)); (conv => { arg 4; simp (disch := omega) [wrap_i64, if_pos, stOf, List.getElem?_cons_zero, List.getElem?_cons_succ, List.getElem?_nil, st0, effF, effC, evalV, evalL, upd_at, updI_at, pv, ofConst, binV, binI, lenV, foldV, mx2, mn2, unV, extractV, idxV, fieldAddrV, sliceV, boundsV, loadL, live, storeE, appendE, srcV, litE, allocE, flatParts, flatCs, flatC, allParts, cellsOf, solid, leafB, fillL, frzL, buildV, fillP, placeS, eqFl, eqCell] }); refine contK_go ?_; (conv => { arg 5; simp only [st0, St.eff, St.put, wrs, List.foldr_cons, List.foldr_nil, List.foldr, Option.getD_some, Bool.false_eq_true, reduceIte, noEff, callE, renP, renA, renC, renI, nid, newL, renB, List.map_cons, List.map_nil, List.getElem?_cons_zero, List.getElem?_cons_succ, List.getElem?_nil, Option.getD_none, List.append_nil, List.nil_append, List.cons_append, List.length_cons, List.length_nil, Nat.reduceAdd, Nat.reduceLT, Nat.lt_irrefl, decide_true, decide_false, Nat.zero_add, frzL, List.filterMap_nil] })) | (refine runK_skip ?_ ?_; (focus (simp [wantK, upd_at]; done)); (conv => { arg 5; simp only [st0, St.eff, St.put, wrs, List.foldr_cons, List.foldr_nil, List.foldr, Option.getD_some, Bool.false_eq_true, reduceIte, noEff, callE, renP, renA, renC, renI, nid, newL, renB, List.map_cons, List.map_nil, List.getElem?_cons_zero, List.getElem?_cons_succ, List.getElem?_nil, Option.getD_none, List.append_nil, List.nil_append, List.cons_append, List.length_cons, List.length_nil, Nat.reduceAdd, Nat.reduceLT, Nat.lt_irrefl, decide_true, decide_false, Nat.zero_add, frzL, List.filterMap_nil] })))
  refine runK_nil ?_
  refine WP.condK' ?_
  (conv => { arg 1; simp (disch := omega) [wrap_i64, if_pos, stOf, List.getElem?_cons_zero, List.getElem?_cons_succ, List.getElem?_nil, st0, effF, effC, evalV, evalL, upd_at, updI_at, pv, ofConst, binV, binI, lenV, foldV, mx2, mn2, unV, extractV, idxV, fieldAddrV, sliceV, boundsV, loadL, live, storeE, appendE, srcV, litE, allocE, flatParts, flatCs, flatC, allParts, cellsOf, solid, leafB, fillL, frzL, buildV, fillP, placeS, eqFl, eqCell] }); refine condK_go ⟨?_, ?_⟩
  · intro h; simp at h
  intro _
  refine WP.skip ?_
  refine WP.seq (WP.reg rfl ?_)
  conv => { arg 3; simp [prep, prep1] }
  repeat (first | (refine runK_go ?_ ?_; (focus (simp [wantK, upd_at]; done)); (conv => { arg 4; simp (disch := omega) [wrap_i64, if_pos, stOf, List.getElem?_cons_zero, List.getElem?_cons_succ, List.getElem?_nil, st0, effF, effC, evalV, evalL, upd_at, updI_at, pv, ofConst, binV, binI, lenV, foldV, mx2, mn2, unV, extractV, idxV, fieldAddrV, sliceV, boundsV, loadL, live, storeE, appendE, srcV, litE, allocE, flatParts, flatCs, flatC, allParts, cellsOf, solid, leafB, fillL, frzL, buildV, fillP, placeS, eqFl, eqCell] }); refine contK_go ?_; (conv => { arg 5; simp only [st0, St.eff, St.put, wrs, List.foldr_cons, List.foldr_nil, List.foldr, Option.getD_some, Bool.false_eq_true, reduceIte, noEff, callE, renP, renA, renC, renI, nid, newL, renB, List.map_cons, List.map_nil, List.getElem?_cons_zero, List.getElem?_cons_succ, List.getElem?_nil, Option.getD_none, List.append_nil, List.nil_append, List.cons_append, List.length_cons, List.length_nil, Nat.reduceAdd, Nat.reduceLT, Nat.lt_irrefl, decide_true, decide_false, Nat.zero_add, frzL, List.filterMap_nil] })) | (refine runK_skip ?_ ?_; (focus (simp [wantK, upd_at]; done)); (conv => { arg 5; simp only [st0, St.eff, St.put, wrs, List.foldr_cons, List.foldr_nil, List.foldr, Option.getD_some, Bool.false_eq_true, reduceIte, noEff, callE, renP, renA, renC, renI, nid, newL, renB, List.map_cons, List.map_nil, List.getElem?_cons_zero, List.getElem?_cons_succ, List.getElem?_nil, Option.getD_none, List.append_nil, List.nil_append, List.cons_append, List.length_cons, List.length_nil, Nat.reduceAdd, Nat.reduceLT, Nat.lt_irrefl, decide_true, decide_false, Nat.zero_add, frzL, List.filterMap_nil] })))
  refine runK_nil ?_
  refine WP.seq (WP.reg rfl ?_)
  conv => { arg 3; simp [prep, prep1] }
  repeat (first | (refine runK_go ?_ ?_; (focus (simp [wantK, upd_at]; done)); (conv => { arg 4; simp (disch := omega) [wrap_i64, if_pos, stOf, List.getElem?_cons_zero, List.getElem?_cons_succ, List.getElem?_nil, st0, effF, effC, evalV, evalL, upd_at, updI_at, pv, ofConst, binV, binI, lenV, foldV, mx2, mn2, unV, extractV, idxV, fieldAddrV, sliceV, boundsV, loadL, live, storeE, appendE, srcV, litE, allocE, flatParts, flatCs, flatC, allParts, cellsOf, solid, leafB, fillL, frzL, buildV, fillP, placeS, eqFl, eqCell] }); refine contK_go ?_; (conv => { arg 5; simp only [st0, St.eff, St.put, wrs, List.foldr_cons, List.foldr_nil, List.foldr, Option.getD_some, Bool.false_eq_true, reduceIte, noEff, callE, renP, renA, renC, renI, nid, newL, renB, List.map_cons, List.map_nil, List.getElem?_cons_zero, List.getElem?_cons_succ, List.getElem?_nil, Option.getD_none, List.append_nil, List.nil_append, List.cons_append, List.length_cons, List.length_nil, Nat.reduceAdd, Nat.reduceLT, Nat.lt_irrefl, decide_true, decide_false, Nat.zero_add, frzL, List.filterMap_nil] })) | (refine runK_skip ?_ ?_; (focus (simp [wantK, upd_at]; done)); (conv => { arg 5; simp only [st0, St.eff, St.put, wrs, List.foldr_cons, List.foldr_nil, List.foldr, Option.getD_some, Bool.false_eq_true, reduceIte, noEff, callE, renP, renA, renC, renI, nid, newL, renB, List.map_cons, List.map_nil, List.getElem?_cons_zero, List.getElem?_cons_succ, List.getElem?_nil, Option.getD_none, List.append_nil, List.nil_append, List.cons_append, List.length_cons, List.length_nil, Nat.reduceAdd, Nat.reduceLT, Nat.lt_irrefl, decide_true, decide_false, Nat.zero_add, frzL, List.filterMap_nil] })))
  refine runK_nil ?_
  refine WP.seq (WP.seq (WP.reg rfl ?_))
  conv => { arg 3; simp [prep, prep1] }
  repeat (first | (refine runK_go ?_ ?_; (focus (simp [wantK, upd_at]; done)); (conv => { arg 4; simp (disch := omega) [wrap_i64, if_pos, stOf, List.getElem?_cons_zero, List.getElem?_cons_succ, List.getElem?_nil, st0, effF, effC, evalV, evalL, upd_at, updI_at, pv, ofConst, binV, binI, lenV, foldV, mx2, mn2, unV, extractV, idxV, fieldAddrV, sliceV, boundsV, loadL, live, storeE, appendE, srcV, litE, allocE, flatParts, flatCs, flatC, allParts, cellsOf, solid, leafB, fillL, frzL, buildV, fillP, placeS, eqFl, eqCell] }); refine contK_go ?_; (conv => { arg 5; simp only [st0, St.eff, St.put, wrs, List.foldr_cons, List.foldr_nil, List.foldr, Option.getD_some, Bool.false_eq_true, reduceIte, noEff, callE, renP, renA, renC, renI, nid, newL, renB, List.map_cons, List.map_nil, List.getElem?_cons_zero, List.getElem?_cons_succ, List.getElem?_nil, Option.getD_none, List.append_nil, List.nil_append, List.cons_append, List.length_cons, List.length_nil, Nat.reduceAdd, Nat.reduceLT, Nat.lt_irrefl, decide_true, decide_false, Nat.zero_add, frzL, List.filterMap_nil] })) | (refine runK_skip ?_ ?_; (focus (simp [wantK, upd_at]; done)); (conv => { arg 5; simp only [st0, St.eff, St.put, wrs, List.foldr_cons, List.foldr_nil, List.foldr, Option.getD_some, Bool.false_eq_true, reduceIte, noEff, callE, renP, renA, renC, renI, nid, newL, renB, List.map_cons, List.map_nil, List.getElem?_cons_zero, List.getElem?_cons_succ, List.getElem?_nil, Option.getD_none, List.append_nil, List.nil_append, List.cons_append, List.length_cons, List.length_nil, Nat.reduceAdd, Nat.reduceLT, Nat.lt_irrefl, decide_true, decide_false, Nat.zero_add, frzL, List.filterMap_nil] })))
  refine runK_nil ?_
  refine WP.block ?_
  refine WP.loop (fun m s => s.frame 0 = .nilS ∧ s.frame 5 = .int .i64 0) 0 ?_ ?_
  · exact ⟨by simp [upd_at], by simp [upd_at]⟩
  · rintro m s ⟨h0, h5⟩
    refine WP.seq (WP.seq (WP.reg rfl ?_))
    conv => { arg 3; simp [prep, prep1] }
    repeat (first | (refine runK_go ?_ ?_; (focus (simp [wantK, upd_at]; done)); (conv => { arg 4; simp (disch := omega) [wrap_i64, if_pos, stOf, List.getElem?_cons_zero, List.getElem?_cons_succ, List.getElem?_nil, st0, effF, effC, evalV, evalL, upd_at, updI_at, pv, ofConst, binV, binI, lenV, foldV, mx2, mn2, unV, extractV, idxV, fieldAddrV, sliceV, boundsV, loadL, live, storeE, appendE, srcV, litE, allocE, flatParts, flatCs, flatC, allParts, cellsOf, solid, leafB, fillL, frzL, buildV, fillP, placeS, eqFl, eqCell, h0, h5] }); refine contK_go ?_; (conv => { arg 5; simp only [st0, St.eff, St.put, wrs, List.foldr_cons, List.foldr_nil, List.foldr, Option.getD_some, Bool.false_eq_true, reduceIte, noEff, callE, renP, renA, renC, renI, nid, newL, renB, List.map_cons, List.map_nil, List.getElem?_cons_zero, List.getElem?_cons_succ, List.getElem?_nil, Option.getD_none, List.append_nil, List.nil_append, List.cons_append, List.length_cons, List.length_nil, Nat.reduceAdd, Nat.reduceLT, Nat.lt_irrefl, decide_true, decide_false, Nat.zero_add, frzL, List.filterMap_nil] })) | (refine runK_skip ?_ ?_; (focus (simp [wantK, upd_at]; done)); (conv => { arg 5; simp only [st0, St.eff, St.put, wrs, List.foldr_cons, List.foldr_nil, List.foldr, Option.getD_some, Bool.false_eq_true, reduceIte, noEff, callE, renP, renA, renC, renI, nid, newL, renB, List.map_cons, List.map_nil, List.getElem?_cons_zero, List.getElem?_cons_succ, List.getElem?_nil, Option.getD_none, List.append_nil, List.nil_append, List.cons_append, List.length_cons, List.length_nil, Nat.reduceAdd, Nat.reduceLT, Nat.lt_irrefl, decide_true, decide_false, Nat.zero_add, frzL, List.filterMap_nil] })))
    refine runK_nil ?_
    refine WP.condK' ?_
    (conv => { arg 1; simp (disch := omega) [wrap_i64, if_pos, stOf, List.getElem?_cons_zero, List.getElem?_cons_succ, List.getElem?_nil, st0, effF, effC, evalV, evalL, upd_at, updI_at, pv, ofConst, binV, binI, lenV, foldV, mx2, mn2, unV, extractV, idxV, fieldAddrV, sliceV, boundsV, loadL, live, storeE, appendE, srcV, litE, allocE, flatParts, flatCs, flatC, allParts, cellsOf, solid, leafB, fillL, frzL, buildV, fillP, placeS, eqFl, eqCell] }); refine condK_go ⟨?_, ?_⟩
    · intro h; simp at h
    intro _
    refine WP.exit ?_
    refine WP.seq (WP.reg rfl ?_)
    conv => { arg 3; simp [prep, prep1] }
    refine runK_go ?_ ?_; (focus (simp [wantK, upd_at]; done)); (conv => { arg 4; simp (disch := omega) [wrap_i64, if_pos, stOf, List.getElem?_cons_zero, List.getElem?_cons_succ, List.getElem?_nil, st0, effF, effC, evalV, evalL, upd_at, updI_at, pv, ofConst, binV, binI, lenV, foldV, mx2, mn2, unV, extractV, idxV, fieldAddrV, sliceV, boundsV, loadL, live, storeE, appendE, srcV, litE, allocE, flatParts, flatCs, flatC, allParts, cellsOf, solid, leafB, fillL, frzL, buildV, fillP, placeS, eqFl, eqCell] })
    refine callK [] [] [] false works_ok ok9 rfl rfl rfl (by simp (disch := omega) [if_pos, stOf, List.getElem?_cons_zero, List.getElem?_cons_succ, List.getElem?_nil, st0, expA, expC, expN, expL, expBs, expB, idx, live, pv, ofConst, upd_at, updI_at, flatCs, flatC]) (by simp (disch := omega) [if_pos, stOf, List.getElem?_cons_zero, List.getElem?_cons_succ, List.getElem?_nil, st0, expA, expC, expN, expL, expBs, expB, idx, live, pv, ofConst, upd_at, updI_at, flatCs, flatC]) (by simp) (by simp) ?_
    conv => { arg 5; simp only [st0, St.eff, St.put, wrs, List.foldr_cons, List.foldr_nil, List.foldr, Option.getD_some, Bool.false_eq_true, reduceIte, noEff, callE, renP, renA, renC, renI, nid, newL, renB, List.map_cons, List.map_nil, List.getElem?_cons_zero, List.getElem?_cons_succ, List.getElem?_nil, Option.getD_none, List.append_nil, List.nil_append, List.cons_append, List.length_cons, List.length_nil, Nat.reduceAdd, Nat.reduceLT, Nat.lt_irrefl, decide_true, decide_false, Nat.zero_add, frzL, List.filterMap_nil] }
    repeat (first | (refine runK_go ?_ ?_; (focus (simp [wantK, upd_at]; done)); (conv => { arg 4; simp (disch := omega) [wrap_i64, if_pos, stOf, List.getElem?_cons_zero, List.getElem?_cons_succ, List.getElem?_nil, st0, effF, effC, evalV, evalL, upd_at, updI_at, pv, ofConst, binV, binI, lenV, foldV, mx2, mn2, unV, extractV, idxV, fieldAddrV, sliceV, boundsV, loadL, live, storeE, appendE, srcV, litE, allocE, flatParts, flatCs, flatC, allParts, cellsOf, solid, leafB, fillL, frzL, buildV, fillP, placeS, eqFl, eqCell] }); refine contK_go ?_; (conv => { arg 5; simp only [st0, St.eff, St.put, wrs, List.foldr_cons, List.foldr_nil, List.foldr, Option.getD_some, Bool.false_eq_true, reduceIte, noEff, callE, renP, renA, renC, renI, nid, newL, renB, List.map_cons, List.map_nil, List.getElem?_cons_zero, List.getElem?_cons_succ, List.getElem?_nil, Option.getD_none, List.append_nil, List.nil_append, List.cons_append, List.length_cons, List.length_nil, Nat.reduceAdd, Nat.reduceLT, Nat.lt_irrefl, decide_true, decide_false, Nat.zero_add, frzL, List.filterMap_nil] })) | (refine runK_skip ?_ ?_; (focus (simp [wantK, upd_at]; done)); (conv => { arg 5; simp only [st0, St.eff, St.put, wrs, List.foldr_cons, List.foldr_nil, List.foldr, Option.getD_some, Bool.false_eq_true, reduceIte, noEff, callE, renP, renA, renC, renI, nid, newL, renB, List.map_cons, List.map_nil, List.getElem?_cons_zero, List.getElem?_cons_succ, List.getElem?_nil, Option.getD_none, List.append_nil, List.nil_append, List.cons_append, List.length_cons, List.length_nil, Nat.reduceAdd, Nat.reduceLT, Nat.lt_irrefl, decide_true, decide_false, Nat.zero_add, frzL, List.filterMap_nil] })))
    refine runK_nil ?_
    refine WP.ret ?_
    refine ⟨[], ?_⟩
    simp (disch := omega) [if_pos, stOf, List.getElem?_cons_zero, List.getElem?_cons_succ, List.getElem?_nil, st0, endK, endR, resA, resL, resV, expP, expA, expC, expN, expL, expBs, expB, idx, live, thenQ, blockQ, upd_at, updI_at, loadL]

theorem piles_of {n : Nat} {p : PV} (h : Shape Try.prog n 31 [p]) : CallOk Try.prog 4 [p] [] (.bool true) [] := by
  cases n with
  | zero => exact h.elim
  | succ n =>
    have hu31 : Try.prog.underlying 31 = some (.slice 35) := by rfl
    have hc35 : Try.prog.cellsOf 35 = 2 := by kernel_rfl
    have hc22 : Try.prog.cellsOf 22 = 1 := by kernel_rfl
    have hc3 : Try.prog.cellsOf 3 = 1 := by kernel_rfl
    unfold Shape at h
    rw [hu31] at h
    rcases h with h | ⟨len, M, h, hM, hlen, hel⟩
    · simp at h; subst h; exact piles_nil
    · simp at h; subst h
      rw [hc35] at hM
      refine law_piles M len hM (by have : maxLen ≤ 9223372036854775807 := by decide
                                    omega) fun i hi => ?_
      have hs := hel i hi
      rw [hc35] at hs
      cases n with
      | zero => exact hs.elim
      | succ n =>
        have hu35 := u35
        unfold Shape at hs
        rw [hu35] at hs
        obtain ⟨hl, hf⟩ := hs
        have f0 := hf { name := "Kind", type := 3, offset := 0, embedded := false, tag := "", pkgPath := "", byteOffset := 0 } (by simp)
        have f1 := hf { name := "L", type := 22, offset := 1, embedded := false, tag := "", pkgPath := "", byteOffset := 8 } (by simp)
        simp only [hc3, hc22] at f0 f1
        have hb0 : i * 2 < M.length := by omega
        have hb1 : i * 2 + 1 < M.length := by omega
        cases n with
        | zero => exact f0.elim
        | succ n =>
          unfold Shape at f0 f1
          rw [Try.underlying3] at f0
          rw [u22] at f1
          obtain ⟨kd, hk, _⟩ := f0
          have ek : M[i * 2]? = some (.int .i64 kd) := by
            have e := congrArg (fun l => l[0]?) hk
            simpa [List.getElem?_take, List.getElem?_drop] using e
          have el : ∀ lp, ((M.drop (i * 2)).take 2 |>.drop 1).take 1 = [lp] → M[i * 2 + 1]? = some lp := by
            intro lp hh
            have e := congrArg (fun l => l[0]?) hh
            simpa [List.getElem?_take, List.getElem?_drop] using e
          rcases f1 with f1 | ⟨m, Q, f1, hQ, hm, hQe⟩
          · exact ⟨kd, .nilS, ek, el _ f1, .inl rfl⟩
          · obtain ⟨A, hA, hAl⟩ := ints_of hQ hQe
            subst hA; subst hAl
            have : maxLen ≤ 9223372036854775807 := by decide
            exact ⟨kd, _, ek, el _ f1, .inr ⟨A, rfl, by omega⟩⟩

set_option maxRecDepth 100000 in
theorem lifted (os : Os) (started : os.Started) (H : Type) (enc : TypeId × Value → H) :
    ReturnsInHanded {} Try.checked os 4 .any (Rows.keepPilesSpec.pre6 enc Try.prog Try.f4 Rows.keepPilesRow.domain false) (Rows.keepPilesSpec.post enc Try.prog Try.f4 false true false false) := by
  refine returnsInHanded_of_change (C := Try.checked) own started (by kernel_rfl) Try.func4
    (ChangeSpec.witness6 (enc := enc) (C := Try.checked) false ⟨#[], #[.slice none 0 0], []⟩ 8 (by kernel_rfl) (by kernel_rfl) (by kernel_rfl) (by kernel_rfl)) ?_
  intro W base args ds gs before hval0 hW hcnd _
  have hval : ∀ (j : Nat) t v, Try.f4.params[j]? = some t → args[j]? = some v → Value.okWide Try.prog W .any base t v := hval0
  have hW' := hW
  obtain ⟨p, q, hA0, hV, rfl, hfz, hnd⟩ := hW
  have hA : DataW.TrodAll enc Try.prog W 0 (fun _ => true) true Try.f4.params.toList args.toList ds p := hA0
  rw [Try.params4] at hA hval
  obtain ⟨v0, vs0, d0, ds0, p0, q0, hargs, rfl, rfl, h0, r0⟩ := trodAll_cons hA
  obtain ⟨rfl, rfl, rfl⟩ := trodAll_nil r0
  obtain rfl : args = #[v0] := by cases args; simp_all
  obtain ⟨rfl, rfl⟩ := trodVars_none hV
  have hone : v0.oneCell' = true := by
    obtain ⟨a0, len, cap, rfl⟩ := Go.WideShapes.okWide_slice (P := Try.prog) (t := 31) (e := 35) (by rfl) (hval 0 31 v0 rfl rfl)
    rfl
  obtain ⟨n, pv, hv, hs⟩ := arg_tree closed (by decide) hone h0
  refine (law_calls (piles_of hs) rfl ?_).mono fun e W' ⟨he, hb⟩ => ?_
  · intro j hj
    rcases j with _ | j
    · exact hv
    · simp at hj
  · subst he
    exact ⟨_, rfl, law_post (tb := 4) laidOut (by kernel_rfl) rfl rfl (by rfl) hW' rfl rfl rfl hb⟩

theorem over : Rows.keepPilesRow.holds Try.pinned (OpenSpec.ofChange Rows.keepPilesSpec) :=
  OpenClaim.holds_of_wide 4 Try.f4 rfl rfl rfl rfl rfl rfl rfl ⟨rfl, rfl, rfl, rfl, rfl⟩ rfl rfl rfl rfl rfl (by kernel_rfl) Try.func4 (by kernel_rfl)
    (of_decide_eq_true (by kernel_rfl)) (by unfold Func.isWrapper; first | (rw [if_pos (by decide +kernel)]; kernel_rfl) | (rw [if_neg (by decide +kernel)]; exact ⟨rfl, rfl⟩))
    (fun os started H enc _ => lifted os started H enc)

theorem keepPiles_holds : Rows.KeepPilesSaid :=
  over
#print axioms keepPiles_holds
end Go.Proofs.Ytabofinagjdljaa.keepPiles
