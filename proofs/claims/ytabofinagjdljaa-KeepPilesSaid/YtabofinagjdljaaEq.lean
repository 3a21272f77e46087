/- Copies. -/
import Derived.Test.YtabofinagjdljaaEp
set_option linter.unusedVariables false
set_option linter.unusedSimpArgs false
namespace Go.Proofs.YtabofinagjdljaaE
open Go.RowKit

def copyE (P : Program) (t tx : TypeId) (x y : PV) (σ : Id → Option Blk) : Option Eff :=
  match P.underlying t, x with
  | some (.slice e), .sl id ver off n sz' =>
    match szOf P e, live σ id ver with
    | some sz, some blk =>
      match srcV P tx sz y σ with
      | some (l, m, rs) =>
        if blk.own = true ∧ blk.flat = true ∧ sz' = sz ∧ sz ≠ 0 ∧ off + n * sz ≤ blk.cells.length then
          some ⟨.int .i64 (min m n : Nat), id :: rs, [(id, { blk with cells := blk.cells.take off ++ l.take (min m n * sz) ++ blk.cells.drop (off + min m n * sz) })], false⟩
        else none
      | none => none
    | _, _ => none
  | _, _ => none

theorem run_copy_builtin {P : Program} {o : Oper} {a : Act} {w w' : World} {x y : Operand} {t tx : TypeId} {v : Value} (ho : o.op = .call { callee := .builtin .copy, args := #[x, y], argTypes := #[t, tx] })
    (h : (Builtin.copy_ #[t, tx] o.type #[a.eval x, a.eval y]).run P w = .ok v w') : (execOp a.eval o).run P w = .ok (.value v) w' := by
  refine run_builtin ho ?_
  simp only [builtin, Sem.run_bind, List.map_toArray, List.map_cons, List.map_nil, h, Result.andThen_ok, Sem.run_pure]

theorem opEff_copy {P : Program} {o : Oper} {s : St} {x y : Operand} {t tx : TypeId} {e : Eff} (ho : o.op = .call { callee := .builtin .copy, args := #[x, y], argTypes := #[t, tx] })
    (h : copyE P t tx (pv s.frame x) (pv s.frame y) s.store = some e) : OpEff P o s e := by
  refine ⟨fun s' h1 h2 h3 => ?_⟩
  rw [← h1 x (by simp [ho, Op.operands, Call.operands]), ← h1 y (by simp [ho, Op.operands, Call.operands])] at h
  unfold copyE at h
  split at h
  · rename_i et id ver off n sz' hu hpx
    split at h
    · rename_i sz blk hsz hl
      split at h
      · rename_i l m rs hsrc
        split at h
        · rename_i hc
          obtain ⟨c1, c2, rfl, hsz0, c4⟩ := hc
          injection h with h
          have hsrc' := srcV_congr hsrc (fun id hid => h2 id (by rw [← h]; simp [hid]))
          have hl' : live s'.store id ver = some blk := by rw [live_congr (h2 id (by rw [← h]; simp))]; exact hl
          subst h
          clear h1 h2 h3
          intro cx a w K Q hr hn hK
          obtain ⟨β, hr⟩ := hr
          obtain ⟨hb, hver⟩ := live_spec hl'
          have vx := VR_pv hr.frame x
          rw [hpx] at vx
          obtain ⟨news, hS⟩ := srcV_run hr hsrc' hsz0 (VR_pv hr.frame y)
          have hsl := vx.sl_inv hb hver
          have hmin : Nat.min m n = min m n := rfl
          have hle : min m n * sz' ≤ n * sz' := Nat.mul_le_mul_right _ (Nat.min_le_right _ _)
          have hle2 : min m n * sz' ≤ m * sz' := Nat.mul_le_mul_right _ (Nat.min_le_left _ _)
          have hcz := hS.cells (min m n) (Nat.min_le_left _ _) w rfl
          unfold Oper.wp
          unfold SlAt at hsl
          split at hsl
          · rename_i hβ
            have hβ : β id = none := hβ
            obtain ⟨hv, hn0⟩ := hsl
            subst hn0
            have hrel := hr.blocks id blk hb
            unfold BlkRel at hrel
            rw [show (env cx β s'.store w).β id = none from hβ] at hrel
            have hrel : blk.cells = [] := hrel
            have hrun : (execOp a.eval o).run P w = .ok (.value (goInt 0)) w := by
              refine run_copy_builtin ho ?_
              rw [hv]
              simp only [Nat.min_zero, Nat.zero_mul, List.take_zero] at hcz
              simp [Builtin.copy_, run_underlying hu, hS.len, run_sizeOf hsz, hmin, hcz]
            rw [hrun]
            simp only [Oper.upon]
            refine hK _ _ ⟨β, (hr.put o.dst (.int .i64 ((min m 0 : Nat) : Int)) _ hn fun _ _ => ?_).congr_store ?_ ?_ ?_⟩
            · simp [goInt]; exact .int _ _
            · cases ho : o.dst <;> simp [St.eff, St.put, ho]
            · have : ({ blk with cells := blk.cells.take off ++ l.take (min m 0 * sz') ++ blk.cells.drop (off + min m 0 * sz') } : Blk) = blk := by
                cases blk; simp at hrel; subst hrel; simp
              funext i
              simp only [St.eff, wrs, List.foldr]
              rw [this]
              by_cases e : i = id
              · subst e; cases ho : o.dst <;> simp [St.put, ho, hb]
              · rw [updI_other _ _ _ _ e]; cases ho : o.dst <;> simp [St.put, ho]
            · cases ho : o.dst <;> simp [St.eff, St.put, ho]
          · rename_i g o0 hβ
            have hβ : β id = some (g, o0) := hβ
            obtain ⟨cap, hv, k1, k2, k3⟩ := hsl
            obtain ⟨_, cur, cet, fz, hat⟩ := (hr.blocks id blk hb).at_ hβ
            have hfz := hat.own c1
            subst hfz
            have hheap : w.heap[g]? = some (.cells cur cet (0, 0)) := hat.heap
            have hsize := hat.size
            have hnl := hS.nlen
            have hll := hS.llen
            have htl : (news.take (min m n * sz')).length = min m n * sz' := by simp; omega
            have hltl : (l.take (min m n * sz')).length = min m n * sz' := by simp; omega
            have hst := run_storeCells_at P g (o0 + off) cet (news.take (min m n * sz')) 0 cur w hheap (by rw [htl]; omega) (fun u hu => hS.mem_one u (List.mem_of_mem_take hu))
            simp only [Nat.add_zero] at hst
            have hrun : (execOp a.eval o).run P w = .ok (.value (goInt (min m n : Nat))) (w.setRow g (cur.toList.take (o0 + off) ++ news.take (min m n * sz') ++ cur.toList.drop (o0 + off + (news.take (min m n * sz')).length)).toArray) := by
              refine run_copy_builtin ho ?_
              rw [hv]
              simp [Builtin.copy_, run_underlying hu, hS.len, run_sizeOf hsz, hmin, hcz, hst]
            rw [hrun]
            simp only [Oper.upon]
            have hcur : ∀ j, ((cur.toList.take (o0 + off) ++ news.take (min m n * sz') ++ cur.toList.drop (o0 + off + (news.take (min m n * sz')).length)).toArray).getD j undef = if o0 + off ≤ j ∧ j < o0 + off + min m n * sz' then (news.take (min m n * sz')).getD (j - (o0 + off)) undef else cur.getD j undef := by
              intro j
              rw [toArray_getD, splice_getD _ _ _ _ _ (by rw [htl]; simp; omega), htl, toList_getD cur]
            have hcs : ((cur.toList.take (o0 + off) ++ news.take (min m n * sz') ++ cur.toList.drop (o0 + off + (news.take (min m n * sz')).length)).toArray).size = cur.size := by
              simp only [List.size_toArray]; rw [splice_length _ _ _ (by rw [htl]; simp; omega)]; simp
            have hqs : (blk.cells.take off ++ l.take (min m n * sz') ++ blk.cells.drop (off + min m n * sz')).length = blk.cells.length := by simp; omega
            have hget : ∀ j, (blk.cells.take off ++ l.take (min m n * sz') ++ blk.cells.drop (off + min m n * sz')).getD j .any = if off ≤ j ∧ j < off + min m n * sz' then (l.take (min m n * sz')).getD (j - off) .any else blk.cells.getD j .any := by
              intro j
              have := splice_getD blk.cells (l.take (min m n * sz')) off j .any (by omega)
              rw [hltl] at this
              exact this
            have hre := hr.rewrite (x := id) (blk := blk) (g := g) (o := o0) hb c1 hβ hheap _ hcs { blk with cells := blk.cells.take off ++ l.take (min m n * sz') ++ blk.cells.drop (off + min m n * sz') } o0 ⟨Nat.le_refl _, fun _ => rfl⟩ (by rw [hqs]; exact hsize)
              (fun j hj => ?_) (fun j hj => ?_)
            · refine hK _ _ ⟨_, (hre.put o.dst (.int .i64 ((min m n : Nat) : Int)) _ hn fun _ _ => .int _ _).congr_store ?_ ?_ ?_⟩
              · cases ho : o.dst <;> simp [St.eff, St.put, ho]
              · cases ho : o.dst <;> rfl
              · cases ho : o.dst <;> rfl
            · rw [hqs] at hj
              simp only [c2, if_true]
              rw [hget, hcur]
              by_cases hj2 : off ≤ j ∧ j < off + min m n * sz'
              · rw [if_pos hj2, if_pos (by omega), show o0 + j - (o0 + off) = j - off by omega, getD_take _ _ _ (by omega)]
                have := hS.vr (j - off) (by omega)
                have e : (news.take (min m n * sz')).getD (j - off) undef = news.getD (j - off) undef := by simp [List.getD, List.getElem?_take, show j - off < min m n * sz' by omega]
                rw [e]; exact this
              · rw [if_neg hj2, if_neg (by omega)]
                have := hat.cell j hj
                rw [if_pos c2] at this
                exact this
            · rw [hqs] at hj
              rw [hcur]
              by_cases hj2 : off ≤ j ∧ j < off + min m n * sz'
              · rw [if_pos (by omega), show o0 + j - (o0 + off) = j - off by omega]
                have e : (news.take (min m n * sz')).getD (j - off) undef = news.getD (j - off) undef := by simp [List.getD, List.getElem?_take, show j - off < min m n * sz' by omega]
                rw [e]; exact hS.one _ (by omega)
              · rw [if_neg (by omega)]; exact hat.one j hj
        · cases h
      · cases h
    · cases h
  · cases h

end Go.Proofs.YtabofinagjdljaaE
