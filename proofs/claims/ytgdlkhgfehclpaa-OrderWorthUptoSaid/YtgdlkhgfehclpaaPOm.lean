/- What a graph is, the document's. No condition. -/
import Derived.Test.YtgdlkhgfehclpaaPOl
namespace Go.Proofs.Ytgdlkhgfehclpaa
open Go Go.AL
set_option linter.unusedVariables false
set_option linter.unusedSimpArgs false
set_option maxHeartbeats 4000000 in
set_option maxRecDepth 100000 in
theorem rgraph_c (rows width : Int) (st cs : List Int) (hb : st.length < 1000000000) (hb2 : cs.length < 1000000000) : APure Try.prog 51 [pat rows width st cs] (.bool (decide (graphP rows width st cs))) := by
  have no : ∀ {h : Heap}, ¬ graphP rows width st cs → Frz h (.bool false) (.bool (decide (graphP rows width st cs))) := fun hc => by rw [decide_eq_false hc]; exact .pure _ rfl
  refine apure_of (wp51 rfl rfl ?_)
  simp (maxSteps := 4000000) +contextual only [↓packA0, ↓packA1, ↓packA2, ↓reduceIte, packB0, packB1, packB2, packB3, packB4, pureOp, quietOp, loadOp, quietB, fr0, cellsK, Option.getD_some, Option.getD_none, implies_true, ite_true, ite_false, eq_self, ne_eq, reduceCtorEq, Nat.reduceLT, Nat.reduceLeDiff, Nat.reduceAdd, Nat.reduceMul, Nat.reduceBEq, Nat.reduceEqDiff, Int.reduceToNat, Int.reduceLT, Int.reduceLE, Nat.reduceSub, pl51, tfun_1, telem_1, tsize_2, tbytes_2, tagg_2, zcells_2, telem_2, tint_2, tnotIface_2, tsize_3, tbytes_3, tagg_3, zcells_3, telem_3, tint_3, tnotIface_3, tsize_4, tbytes_4, tagg_4, zcells_4, telem_4, tbool_4, tnotIface_4, tsize_23, tbytes_23, tagg_23, zcells_23, telem_23, tnotIface_23, tsize_45, tbytes_45, tagg_45, zcells_45, telem_45, tnotIface_45, foff_45_0, foff_45_1, foff_45_2, foff_45_3, fplaces_45, ints]
  refine acalls_pure (rmay_c rows width st cs hb hb2) rfl ?_
  simp (maxSteps := 4000000) +contextual only [↓packA0, ↓packA1, ↓packA2, ↓reduceIte, packB0, packB1, packB2, packB3, packB4, pureOp, quietOp, loadOp, quietB, fr0, cellsK, Option.getD_some, Option.getD_none, implies_true, ite_true, ite_false, eq_self, ne_eq, reduceCtorEq, Nat.reduceLT, Nat.reduceLeDiff, Nat.reduceAdd, Nat.reduceMul, Nat.reduceBEq, Nat.reduceEqDiff, Int.reduceToNat, Int.reduceLT, Int.reduceLE, Nat.reduceSub, pl51, tfun_1, telem_1, tsize_2, tbytes_2, tagg_2, zcells_2, telem_2, tint_2, tnotIface_2, tsize_3, tbytes_3, tagg_3, zcells_3, telem_3, tint_3, tnotIface_3, tsize_4, tbytes_4, tagg_4, zcells_4, telem_4, tbool_4, tnotIface_4, tsize_23, tbytes_23, tagg_23, zcells_23, telem_23, tnotIface_23, tsize_45, tbytes_45, tagg_45, zcells_45, telem_45, tnotIface_45, foff_45_0, foff_45_1, foff_45_2, foff_45_3, fplaces_45, ints]
  refine ⟨fun h0 => ⟨fun h1 => no fun hc => h1 hc.1.2.1, fun h1 => ?_⟩, fun h0 => no fun hc => h0 hc.1.1⟩
  subst h1
  refine LoopK.intro (fun m a h => ∃ r : Nat, m = rows.toNat - r ∧ r ≤ rows.toNat ∧ (∀ i, i < r → symRow st cs i ∧ ¬ (i : Int) ∈ rowOf st cs i) ∧ a 1 = .op 0 4 0 0 ∧ a 3 = .int .i64 r ∧ h = [patO rows rows st cs]) rows.toNat ⟨0, rfl, Nat.zero_le _, fun i h => absurd h (Nat.not_lt_zero _), ?_⟩ ?_
  · simp (maxSteps := 4000000) +contextual only [↓packA0, ↓packA1, ↓packA2, ↓reduceIte, packB0, packB1, packB2, packB3, packB4, pureOp, quietOp, loadOp, quietB, fr0, cellsK, Option.getD_some, Option.getD_none, implies_true, ite_true, ite_false, eq_self, ne_eq, reduceCtorEq, Nat.reduceLT, Nat.reduceLeDiff, Nat.reduceAdd, Nat.reduceMul, Nat.reduceBEq, Nat.reduceEqDiff, Int.reduceToNat, Int.reduceLT, Int.reduceLE, Nat.reduceSub, pl51, tfun_1, telem_1, tsize_2, tbytes_2, tagg_2, zcells_2, telem_2, tint_2, tnotIface_2, tsize_3, tbytes_3, tagg_3, zcells_3, telem_3, tint_3, tnotIface_3, tsize_4, tbytes_4, tagg_4, zcells_4, telem_4, tbool_4, tnotIface_4, tsize_23, tbytes_23, tagg_23, zcells_23, telem_23, tnotIface_23, tsize_45, tbytes_45, tagg_45, zcells_45, telem_45, tnotIface_45, foff_45_0, foff_45_1, foff_45_2, foff_45_3, fplaces_45, patO, ints, Int.natCast_zero]
  rintro m a h ⟨r, rfl, hr, hok, a1, a3, rfl⟩
  have hr1 : ((r : Int) + 1).toNat = r + 1 := by omega
  simp (maxSteps := 4000000) +contextual only [↓packA0, ↓packA1, ↓packA2, ↓reduceIte, packB0, packB1, packB2, packB3, packB4, pureOp, quietOp, loadOp, quietB, fr0, cellsK, Option.getD_some, Option.getD_none, implies_true, ite_true, ite_false, eq_self, ne_eq, reduceCtorEq, Nat.reduceLT, Nat.reduceLeDiff, Nat.reduceAdd, Nat.reduceMul, Nat.reduceBEq, Nat.reduceEqDiff, Int.reduceToNat, Int.reduceLT, Int.reduceLE, Nat.reduceSub, pl51, tfun_1, telem_1, tsize_2, tbytes_2, tagg_2, zcells_2, telem_2, tint_2, tnotIface_2, tsize_3, tbytes_3, tagg_3, zcells_3, telem_3, tint_3, tnotIface_3, tsize_4, tbytes_4, tagg_4, zcells_4, telem_4, tbool_4, tnotIface_4, tsize_23, tbytes_23, tagg_23, zcells_23, telem_23, tnotIface_23, tsize_45, tbytes_45, tagg_45, zcells_45, telem_45, tnotIface_45, foff_45_0, foff_45_1, foff_45_2, foff_45_3, fplaces_45, patO, ints, a1, a3, hr1]
  refine ⟨fun h6 => ?_, fun h6 => ?_⟩
  · obtain ⟨q1, q2, q3, q4, q5, q6, q7⟩ := may_row h0 (show r < rows.toNat by omega)
    have hg : ∀ j, j < (rowOf st cs r).length → cs.getD ((st.getD r default).toNat + j) default = (rowOf st cs r).getD j default := fun j hj => (row_get' (by omega)).symm
    refine ⟨by omega, by omega, ?_⟩
    refine LoopK.intro (fun m a h => ∃ j : Nat, m = (rowOf st cs r).length - j ∧ j ≤ (rowOf st cs r).length ∧ (∀ i, i < j → (rowOf st cs r).getD i default ≠ r ∧ (r : Int) ∈ rowOf st cs ((rowOf st cs r).getD i default).toNat) ∧ a 1 = .op 0 4 0 0 ∧ a 3 = .int .i64 r ∧ a 4 = .int .i64 (((st.getD r default).toNat + j : Nat) : Int) ∧ h = [patO rows rows st cs]) (rowOf st cs r).length ⟨0, rfl, Nat.zero_le _, fun i h => absurd h (Nat.not_lt_zero _), ?_⟩ ?_
    · simp (maxSteps := 4000000) +contextual only [↓packA0, ↓packA1, ↓packA2, ↓reduceIte, packB0, packB1, packB2, packB3, packB4, pureOp, quietOp, loadOp, quietB, fr0, cellsK, Option.getD_some, Option.getD_none, implies_true, ite_true, ite_false, eq_self, ne_eq, reduceCtorEq, Nat.reduceLT, Nat.reduceLeDiff, Nat.reduceAdd, Nat.reduceMul, Nat.reduceBEq, Nat.reduceEqDiff, Int.reduceToNat, Int.reduceLT, Int.reduceLE, Nat.reduceSub, pl51, tfun_1, telem_1, tsize_2, tbytes_2, tagg_2, zcells_2, telem_2, tint_2, tnotIface_2, tsize_3, tbytes_3, tagg_3, zcells_3, telem_3, tint_3, tnotIface_3, tsize_4, tbytes_4, tagg_4, zcells_4, telem_4, tbool_4, tnotIface_4, tsize_23, tbytes_23, tagg_23, zcells_23, telem_23, tnotIface_23, tsize_45, tbytes_45, tagg_45, zcells_45, telem_45, tnotIface_45, foff_45_0, foff_45_1, foff_45_2, foff_45_3, fplaces_45, patO, ints, Int.natCast_zero, a1, a3]
      omega
    rintro m a h ⟨j, rfl, hj, hjok, a1, a3, a4, rfl⟩
    simp (maxSteps := 4000000) +contextual only [↓packA0, ↓packA1, ↓packA2, ↓reduceIte, packB0, packB1, packB2, packB3, packB4, pureOp, quietOp, loadOp, quietB, fr0, cellsK, Option.getD_some, Option.getD_none, implies_true, ite_true, ite_false, eq_self, ne_eq, reduceCtorEq, Nat.reduceLT, Nat.reduceLeDiff, Nat.reduceAdd, Nat.reduceMul, Nat.reduceBEq, Nat.reduceEqDiff, Int.reduceToNat, Int.reduceLT, Int.reduceLE, Nat.reduceSub, pl51, tfun_1, telem_1, tsize_2, tbytes_2, tagg_2, zcells_2, telem_2, tint_2, tnotIface_2, tsize_3, tbytes_3, tagg_3, zcells_3, telem_3, tint_3, tnotIface_3, tsize_4, tbytes_4, tagg_4, zcells_4, telem_4, tbool_4, tnotIface_4, tsize_23, tbytes_23, tagg_23, zcells_23, telem_23, tnotIface_23, tsize_45, tbytes_45, tagg_45, zcells_45, telem_45, tnotIface_45, foff_45_0, foff_45_1, foff_45_2, foff_45_3, fplaces_45, patO, ints, a1, a3, a4, hr1]
    refine ⟨by omega, by omega, by omega, fun h9 => ?_, fun h9 => ?_⟩
    · have hj2 : j < (rowOf st cs r).length := by omega
      rw [hg j hj2]
      refine ⟨by omega, by omega, fun h10 => no fun hc => hc.2 r (by omega) (mem_getD.2 ⟨j, hj2, h10⟩), fun h10 => ⟨by omega, by omega, ?_⟩⟩
      have hn0 := row_nonneg q4 hj2
      have hn1 := (q4 j hj2).2
      refine acalls_pure (rhas_c rows rows st cs hb hb2 h0 _ hn0 hn1 r) rfl ?_
      simp (maxSteps := 4000000) +contextual only [↓packA0, ↓packA1, ↓packA2, ↓reduceIte, packB0, packB1, packB2, packB3, packB4, pureOp, quietOp, loadOp, quietB, fr0, cellsK, Option.getD_some, Option.getD_none, implies_true, ite_true, ite_false, eq_self, ne_eq, reduceCtorEq, Nat.reduceLT, Nat.reduceLeDiff, Nat.reduceAdd, Nat.reduceMul, Nat.reduceBEq, Nat.reduceEqDiff, Int.reduceToNat, Int.reduceLT, Int.reduceLE, Nat.reduceSub, pl51, tfun_1, telem_1, tsize_2, tbytes_2, tagg_2, zcells_2, telem_2, tint_2, tnotIface_2, tsize_3, tbytes_3, tagg_3, zcells_3, telem_3, tint_3, tnotIface_3, tsize_4, tbytes_4, tagg_4, zcells_4, telem_4, tbool_4, tnotIface_4, tsize_23, tbytes_23, tagg_23, zcells_23, telem_23, tnotIface_23, tsize_45, tbytes_45, tagg_45, zcells_45, telem_45, tnotIface_45, foff_45_0, foff_45_1, foff_45_2, foff_45_3, fplaces_45, patO, ints, a1, a3, a4, hr1]
      refine ⟨fun h11 => absurd h11 h10, fun _ => ⟨fun h11 => ⟨by omega, .inl ⟨(rowOf st cs r).length - (j + 1), by omega, j + 1, rfl, by omega, fun i hi => ?_, by omega⟩⟩, fun h11 => no fun hc => h11 (hc.1.2.2 r (by omega) j hj2)⟩⟩
      rcases Nat.lt_or_ge i j with h12 | h12
      · exact hjok i h12
      · rw [show i = j by omega]; exact ⟨h10, h11⟩
    · have hjl : j = (rowOf st cs r).length := by omega
      subst hjl
      refine ⟨by omega, .inl ⟨rows.toNat - (r + 1), by omega, r + 1, rfl, by omega, fun i hi => ?_, by omega⟩⟩
      rcases Nat.lt_or_ge i r with h11 | h11
      · exact hok i h11
      · rw [show i = r by omega]
        refine ⟨fun j hj => (hjok j hj).2, fun hc => ?_⟩
        obtain ⟨i, hi, e⟩ := mem_getD.1 hc
        exact (hjok i hi).1 e
  · rw [decide_eq_true (show graphP rows rows st cs from ⟨⟨h0, rfl, fun i hi => (hok i (by omega)).1⟩, fun i hi => (hok i (by omega)).2⟩)]
    exact .pure _ rfl
end Go.Proofs.Ytgdlkhgfehclpaa
