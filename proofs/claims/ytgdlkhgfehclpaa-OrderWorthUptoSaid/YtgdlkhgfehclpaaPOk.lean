/- What a graph is, both. No condition. -/
import Derived.Test.YtgdlkhgfehclpaaPOj
namespace Go.Proofs.Ytgdlkhgfehclpaa
open Go Go.AL
set_option linter.unusedVariables false
set_option linter.unusedSimpArgs false
def graphP (rows width : Int) (st cs : List Int) : Prop := symP rows width st cs ∧ ∀ v, v < rows.toNat → ¬ (v : Int) ∈ rowOf st cs v
instance (rows width : Int) (st cs : List Int) : Decidable (graphP rows width st cs) := by unfold graphP; infer_instance
set_option maxRecDepth 100000 in
theorem graph_c (rows width : Int) (st cs : List Int) (hb : st.length < 1000000000) (hb2 : cs.length < 1000000000) : APure Try.prog 49 [pat rows width st cs] (.bool (decide (graphP rows width st cs))) := by
  have no : ∀ {h : Heap}, ¬ graphP rows width st cs → Frz h (.bool false) (.bool (decide (graphP rows width st cs))) := fun hc => by rw [decide_eq_false hc]; exact .pure _ rfl
  refine apure_of (wp49 rfl rfl ?_)
  simp (maxSteps := 4000000) +contextual only [↓packA0, ↓packA1, ↓packA2, ↓reduceIte, packB0, packB1, packB2, packB3, packB4, pureOp, quietOp, loadOp, quietB, fr0, cellsK, Option.getD_some, Option.getD_none, implies_true, ite_true, ite_false, eq_self, ne_eq, reduceCtorEq, Nat.reduceLT, Nat.reduceLeDiff, Nat.reduceAdd, Nat.reduceMul, Nat.reduceBEq, Nat.reduceEqDiff, Int.reduceToNat, Int.reduceLT, Int.reduceLE, Nat.reduceSub, pl49, tsize_3, tbytes_3, tagg_3, zcells_3, telem_3, tint_3, tnotIface_3, tsize_4, tbytes_4, tagg_4, zcells_4, telem_4, tbool_4, tnotIface_4, tsize_23, tbytes_23, tagg_23, zcells_23, telem_23, tnotIface_23, tsize_45, tbytes_45, tagg_45, zcells_45, telem_45, tnotIface_45, foff_45_0, foff_45_1, foff_45_2, foff_45_3, fplaces_45, ints]
  refine acalls_pure (may_c rows width st cs hb hb2) rfl ?_
  simp (maxSteps := 4000000) +contextual only [↓packA0, ↓packA1, ↓packA2, ↓reduceIte, packB0, packB1, packB2, packB3, packB4, pureOp, quietOp, loadOp, quietB, fr0, cellsK, Option.getD_some, Option.getD_none, implies_true, ite_true, ite_false, eq_self, ne_eq, reduceCtorEq, Nat.reduceLT, Nat.reduceLeDiff, Nat.reduceAdd, Nat.reduceMul, Nat.reduceBEq, Nat.reduceEqDiff, Int.reduceToNat, Int.reduceLT, Int.reduceLE, Nat.reduceSub, pl49, tsize_3, tbytes_3, tagg_3, zcells_3, telem_3, tint_3, tnotIface_3, tsize_4, tbytes_4, tagg_4, zcells_4, telem_4, tbool_4, tnotIface_4, tsize_23, tbytes_23, tagg_23, zcells_23, telem_23, tnotIface_23, tsize_45, tbytes_45, tagg_45, zcells_45, telem_45, tnotIface_45, foff_45_0, foff_45_1, foff_45_2, foff_45_3, fplaces_45, ints]
  refine ⟨fun h0 => ?_, fun h0 => no fun hc => h0 hc.1.1⟩
  refine acalls_pure (sym_c rows width st cs hb hb2) rfl ?_
  simp (maxSteps := 4000000) +contextual only [↓packA0, ↓packA1, ↓packA2, ↓reduceIte, packB0, packB1, packB2, packB3, packB4, pureOp, quietOp, loadOp, quietB, fr0, cellsK, Option.getD_some, Option.getD_none, implies_true, ite_true, ite_false, eq_self, ne_eq, reduceCtorEq, Nat.reduceLT, Nat.reduceLeDiff, Nat.reduceAdd, Nat.reduceMul, Nat.reduceBEq, Nat.reduceEqDiff, Int.reduceToNat, Int.reduceLT, Int.reduceLE, Nat.reduceSub, pl49, tsize_3, tbytes_3, tagg_3, zcells_3, telem_3, tint_3, tnotIface_3, tsize_4, tbytes_4, tagg_4, zcells_4, telem_4, tbool_4, tnotIface_4, tsize_23, tbytes_23, tagg_23, zcells_23, telem_23, tnotIface_23, tsize_45, tbytes_45, tagg_45, zcells_45, telem_45, tnotIface_45, foff_45_0, foff_45_1, foff_45_2, foff_45_3, fplaces_45, ints, h0]
  refine ⟨fun h1 => ?_, fun h1 => no fun hc => h1 hc.1⟩
  refine LoopK.intro (fun m a h => ∃ (r : Nat), m = rows.toNat - r ∧ r ≤ rows.toNat ∧ (∀ i, i < r → ¬ (i : Int) ∈ rowOf st cs i) ∧ a 1 = .op 0 4 0 0 ∧ a 13 = .int .i64 rows ∧ a 14 = .int .i64 r ∧ h = [patO rows width st cs]) rows.toNat ⟨0, rfl, Nat.zero_le _, fun i hi => absurd hi (Nat.not_lt_zero _), ?_⟩ ?_
  · have := h1.2.1
    simp (maxSteps := 4000000) +contextual only [↓packA0, ↓packA1, ↓packA2, ↓reduceIte, packB0, packB1, packB2, packB3, packB4, pureOp, quietOp, loadOp, quietB, fr0, cellsK, Option.getD_some, Option.getD_none, implies_true, ite_true, ite_false, eq_self, ne_eq, reduceCtorEq, Nat.reduceLT, Nat.reduceLeDiff, Nat.reduceAdd, Nat.reduceMul, Nat.reduceBEq, Nat.reduceEqDiff, Int.reduceToNat, Int.reduceLT, Int.reduceLE, Nat.reduceSub, pl49, tsize_3, tbytes_3, tagg_3, zcells_3, telem_3, tint_3, tnotIface_3, tsize_4, tbytes_4, tagg_4, zcells_4, telem_4, tbool_4, tnotIface_4, tsize_23, tbytes_23, tagg_23, zcells_23, telem_23, tnotIface_23, tsize_45, tbytes_45, tagg_45, zcells_45, telem_45, tnotIface_45, foff_45_0, foff_45_1, foff_45_2, foff_45_3, fplaces_45, patO, ints, Int.natCast_zero]
  rintro m a h ⟨r, rfl, hr, hbr, a1, a13, a14, rfl⟩
  have hro := h0.1
  simp (maxSteps := 4000000) +contextual only [↓packA0, ↓packA1, ↓packA2, ↓reduceIte, packB0, packB1, packB2, packB3, packB4, pureOp, quietOp, loadOp, quietB, fr0, cellsK, Option.getD_some, Option.getD_none, implies_true, ite_true, ite_false, eq_self, ne_eq, reduceCtorEq, Nat.reduceLT, Nat.reduceLeDiff, Nat.reduceAdd, Nat.reduceMul, Nat.reduceBEq, Nat.reduceEqDiff, Int.reduceToNat, Int.reduceLT, Int.reduceLE, Nat.reduceSub, pl49, tsize_3, tbytes_3, tagg_3, zcells_3, telem_3, tint_3, tnotIface_3, tsize_4, tbytes_4, tagg_4, zcells_4, telem_4, tbool_4, tnotIface_4, tsize_23, tbytes_23, tagg_23, zcells_23, telem_23, tnotIface_23, tsize_45, tbytes_45, tagg_45, zcells_45, telem_45, tnotIface_45, foff_45_0, foff_45_1, foff_45_2, foff_45_3, fplaces_45, patO, ints, a1, a13, a14]
  refine ⟨fun h2 => ?_, fun h2 => ?_⟩
  · refine acalls_pure (has_c rows width st cs hb hb2 h0 r (by omega) r) rfl ?_
    simp (maxSteps := 4000000) +contextual only [↓packA0, ↓packA1, ↓packA2, ↓reduceIte, packB0, packB1, packB2, packB3, packB4, pureOp, quietOp, loadOp, quietB, fr0, cellsK, Option.getD_some, Option.getD_none, implies_true, ite_true, ite_false, eq_self, ne_eq, reduceCtorEq, Nat.reduceLT, Nat.reduceLeDiff, Nat.reduceAdd, Nat.reduceMul, Nat.reduceBEq, Nat.reduceEqDiff, Int.reduceToNat, Int.reduceLT, Int.reduceLE, Nat.reduceSub, pl49, tsize_3, tbytes_3, tagg_3, zcells_3, telem_3, tint_3, tnotIface_3, tsize_4, tbytes_4, tagg_4, zcells_4, telem_4, tbool_4, tnotIface_4, tsize_23, tbytes_23, tagg_23, zcells_23, telem_23, tnotIface_23, tsize_45, tbytes_45, tagg_45, zcells_45, telem_45, tnotIface_45, foff_45_0, foff_45_1, foff_45_2, foff_45_3, fplaces_45, patO, ints, a1, a13, a14]
    refine ⟨fun h3 => no fun hc => hc.2 r (by omega) h3, fun h3 => ⟨by omega, .inl ⟨rows.toNat - (r + 1), by omega, r + 1, rfl, by omega, fun i hi => ?_, by omega⟩⟩⟩
    rcases Nat.lt_or_ge i r with h6 | h6
    · exact hbr i h6
    · rw [show i = r by omega]; exact h3
  · rw [decide_eq_true (show graphP rows width st cs from ⟨h1, fun v hv => hbr v (by omega)⟩)]
    exact .pure _ rfl
set_option maxRecDepth 100000 in
theorem rhas_c (rows width : Int) (st cs : List Int) (hb : st.length < 1000000000) (hb2 : cs.length < 1000000000) (h : mayP rows width st cs) (r : Int) (h0 : 0 ≤ r) (h1 : r < rows) (c : Int) : APure Try.prog 57 [pat rows width st cs, .int .i64 r, .int .i64 c] (.bool (decide (c ∈ rowOf st cs r.toNat))) := by
  obtain ⟨q1, q2, q3, q4, q5, q6, q7⟩ := may_row h (show r.toNat < rows.toNat by omega)
  have hr1 : (r + 1).toNat = r.toNat + 1 := by omega
  refine apure_of (wp57 rfl rfl ?_)
  simp (maxSteps := 4000000) +contextual only [↓packA0, ↓packA1, ↓packA2, ↓reduceIte, packB0, packB1, packB2, packB3, packB4, pureOp, quietOp, loadOp, quietB, fr0, cellsK, Option.getD_some, Option.getD_none, implies_true, ite_true, ite_false, eq_self, ne_eq, reduceCtorEq, Nat.reduceLT, Nat.reduceLeDiff, Nat.reduceAdd, Nat.reduceMul, Nat.reduceBEq, Nat.reduceEqDiff, Int.reduceToNat, Int.reduceLT, Int.reduceLE, Nat.reduceSub, pl57, tsize_2, tbytes_2, tagg_2, zcells_2, telem_2, tint_2, tnotIface_2, tsize_3, tbytes_3, tagg_3, zcells_3, telem_3, tint_3, tnotIface_3, tsize_23, tbytes_23, tagg_23, zcells_23, telem_23, tnotIface_23, tsize_45, tbytes_45, tagg_45, zcells_45, telem_45, tnotIface_45, foff_45_0, foff_45_1, foff_45_2, foff_45_3, fplaces_45, ints]
  refine ⟨by omega, by omega, LoopK.intro (fun m a hh => ∃ (j : Nat), m = (rowOf st cs r.toNat).length - j ∧ j ≤ (rowOf st cs r.toNat).length ∧ (∀ i, i < j → (rowOf st cs r.toNat).getD i default ≠ c) ∧ a 1 = .int .i64 r ∧ a 2 = .int .i64 c ∧ a 3 = .op 0 4 0 0 ∧ a 7 = .int .i64 (((st.getD r.toNat default).toNat + j : Nat) : Int) ∧ hh = [patO rows width st cs]) (rowOf st cs r.toNat).length ⟨0, rfl, Nat.zero_le _, fun i hi => absurd hi (Nat.not_lt_zero _), ?_⟩ ?_⟩
  · simp (maxSteps := 4000000) +contextual only [↓packA0, ↓packA1, ↓packA2, ↓reduceIte, packB0, packB1, packB2, packB3, packB4, pureOp, quietOp, loadOp, quietB, fr0, cellsK, Option.getD_some, Option.getD_none, implies_true, ite_true, ite_false, eq_self, ne_eq, reduceCtorEq, Nat.reduceLT, Nat.reduceLeDiff, Nat.reduceAdd, Nat.reduceMul, Nat.reduceBEq, Nat.reduceEqDiff, Int.reduceToNat, Int.reduceLT, Int.reduceLE, Nat.reduceSub, pl57, tsize_2, tbytes_2, tagg_2, zcells_2, telem_2, tint_2, tnotIface_2, tsize_3, tbytes_3, tagg_3, zcells_3, telem_3, tint_3, tnotIface_3, tsize_23, tbytes_23, tagg_23, zcells_23, telem_23, tnotIface_23, tsize_45, tbytes_45, tagg_45, zcells_45, telem_45, tnotIface_45, foff_45_0, foff_45_1, foff_45_2, foff_45_3, fplaces_45, patO, ints, Int.natCast_zero]
    omega
  rintro m a hh ⟨j, rfl, hj, hok, a1, a2, a3, a7, rfl⟩
  simp (maxSteps := 4000000) +contextual only [↓packA0, ↓packA1, ↓packA2, ↓reduceIte, packB0, packB1, packB2, packB3, packB4, pureOp, quietOp, loadOp, quietB, fr0, cellsK, Option.getD_some, Option.getD_none, implies_true, ite_true, ite_false, eq_self, ne_eq, reduceCtorEq, Nat.reduceLT, Nat.reduceLeDiff, Nat.reduceAdd, Nat.reduceMul, Nat.reduceBEq, Nat.reduceEqDiff, Int.reduceToNat, Int.reduceLT, Int.reduceLE, Nat.reduceSub, pl57, tsize_2, tbytes_2, tagg_2, zcells_2, telem_2, tint_2, tnotIface_2, tsize_3, tbytes_3, tagg_3, zcells_3, telem_3, tint_3, tnotIface_3, tsize_23, tbytes_23, tagg_23, zcells_23, telem_23, tnotIface_23, tsize_45, tbytes_45, tagg_45, zcells_45, telem_45, tnotIface_45, foff_45_0, foff_45_1, foff_45_2, foff_45_3, fplaces_45, patO, ints, a1, a2, a3, a7, hr1]
  refine ⟨by omega, by omega, by omega, fun h2 => ⟨by omega, by omega, fun h3 => ?_, fun h3 => ⟨by omega, .inl ⟨(rowOf st cs r.toNat).length - (j + 1), by omega, j + 1, rfl, by omega, fun i hi => ?_, by omega⟩⟩⟩, fun h2 => ?_⟩
  · have hj2 : j < (rowOf st cs r.toNat).length := by omega
    rw [decide_eq_true (mem_getD.2 ⟨j, hj2, by rw [row_getD h (by omega) hj2]; exact h3⟩)]
    exact .pure _ rfl
  · rcases Nat.lt_or_ge i j with h6 | h6
    · exact hok i h6
    · rw [show i = j by omega, row_getD h (by omega) (by omega)]; exact h3
  · rw [decide_eq_false (fun hc => by
      obtain ⟨i, hi, e⟩ := mem_getD.1 hc
      exact hok i (by omega) e)]
    exact .pure _ rfl
end Go.Proofs.Ytgdlkhgfehclpaa
