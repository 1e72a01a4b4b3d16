/- Texts of one claim bound together: POG, POM, PZ11. -/
import Derived.Test.YtgdlkhgfehclpaaMN7
import Derived.Test.YtgdlkhgfehclpaaMN5

section
/- The law OrderSets, walked. No condition. -/
namespace Go.Proofs.Ytgdlkhgfehclpaa
open Go Go.AL
set_option linter.unusedVariables false
set_option linter.unusedSimpArgs false
theorem wrong_c (rows width : Int) (st cs : List Int) (hb : st.length < 1000000000) (hb2 : cs.length < 1000000000) : APure Try.prog 21 [pat rows width st cs] (.bool (!decide (graphP rows width st cs))) := by
  refine apure_of (wp21 rfl rfl ?_)
  simp (maxSteps := 4000000) +contextual only [↓packA0, ↓packA1, ↓packA2, ↓reduceIte, packB0, packB1, packB2, packB3, packB4, pureOp, quietOp, loadOp, quietB, fr0, cellsK, Option.getD_some, Option.getD_none, implies_true, ite_true, ite_false, eq_self, ne_eq, reduceCtorEq, Nat.reduceLT, Nat.reduceLeDiff, Nat.reduceAdd, Nat.reduceMul, Nat.reduceBEq, Nat.reduceEqDiff, Int.reduceToNat, Int.reduceLT, Int.reduceLE, Nat.reduceSub, pl21, tsize_3, tbytes_3, tagg_3, zcells_3, telem_3, tint_3, tnotIface_3, tsize_4, tbytes_4, tagg_4, zcells_4, telem_4, tbool_4, tnotIface_4, tsize_23, tbytes_23, tagg_23, zcells_23, telem_23, tnotIface_23, tsize_45, tbytes_45, tagg_45, zcells_45, telem_45, tnotIface_45, foff_45_0, foff_45_1, foff_45_2, foff_45_3, fplaces_45, ints]
  refine acalls_pure (rgraph_c rows width st cs hb hb2) rfl ?_
  simp (maxSteps := 4000000) +contextual only [↓packA0, ↓packA1, ↓packA2, ↓reduceIte, packB0, packB1, packB2, packB3, packB4, pureOp, quietOp, loadOp, quietB, fr0, cellsK, Option.getD_some, Option.getD_none, implies_true, ite_true, ite_false, eq_self, ne_eq, reduceCtorEq, Nat.reduceLT, Nat.reduceLeDiff, Nat.reduceAdd, Nat.reduceMul, Nat.reduceBEq, Nat.reduceEqDiff, Int.reduceToNat, Int.reduceLT, Int.reduceLE, Nat.reduceSub, pl21, tsize_3, tbytes_3, tagg_3, zcells_3, telem_3, tint_3, tnotIface_3, tsize_4, tbytes_4, tagg_4, zcells_4, telem_4, tbool_4, tnotIface_4, tsize_23, tbytes_23, tagg_23, zcells_23, telem_23, tnotIface_23, tsize_45, tbytes_45, tagg_45, zcells_45, telem_45, tnotIface_45, foff_45_0, foff_45_1, foff_45_2, foff_45_3, fplaces_45, ints]
  exact .pure _ rfl
set_option maxRecDepth 100000 in
theorem inside_c (n : Nat) (st cs : List Int) (S : List Bool) (hb : st.length < 1000000000) (hb2 : cs.length < 1000000000) (hm : mayP n n st cs) (hn : n ≤ 128) (v : Nat) (hv : v < n) (hS : S.length < 1000000000) : APure Try.prog 23 [pat n n st cs, .int .i64 v, bools S] (.int .i64 (cnt st cs S v)) := by
  have q4 := (may_row hm (show v < (n : Int).toNat by omega)).2.2.2.1
  have hrl := row_len hm hv
  refine apure_of (wp23 rfl rfl ?_)
  simp (maxSteps := 4000000) +contextual only [↓packA0, ↓packA1, ↓packA2, ↓reduceIte, packB0, packB1, packB2, packB3, packB4, pureOp, quietOp, loadOp, quietB, fr0, cellsK, Option.getD_some, Option.getD_none, implies_true, ite_true, ite_false, eq_self, ne_eq, reduceCtorEq, Nat.reduceLT, Nat.reduceLeDiff, Nat.reduceAdd, Nat.reduceMul, Nat.reduceBEq, Nat.reduceEqDiff, Int.reduceToNat, Int.reduceLT, Int.reduceLE, Nat.reduceSub, pl23, tsize_3, tbytes_3, tagg_3, zcells_3, telem_3, tint_3, tnotIface_3, tsize_4, tbytes_4, tagg_4, zcells_4, telem_4, tbool_4, tnotIface_4, tsize_23, tbytes_23, tagg_23, zcells_23, telem_23, tnotIface_23, tsize_45, tbytes_45, tagg_45, zcells_45, telem_45, tnotIface_45, foff_45_0, foff_45_1, foff_45_2, foff_45_3, fplaces_45, tsize_52, tbytes_52, tagg_52, zcells_52, telem_52, tnotIface_52, ints, bools]
  refine acalls_pure (rneigh_c n n st cs hb hb2 hm v (by omega) (by omega)) rfl ?_
  simp (maxSteps := 4000000) +contextual only [↓packA0, ↓packA1, ↓packA2, ↓reduceIte, packB0, packB1, packB2, packB3, packB4, pureOp, quietOp, loadOp, quietB, fr0, cellsK, Option.getD_some, Option.getD_none, implies_true, ite_true, ite_false, eq_self, ne_eq, reduceCtorEq, Nat.reduceLT, Nat.reduceLeDiff, Nat.reduceAdd, Nat.reduceMul, Nat.reduceBEq, Nat.reduceEqDiff, Int.reduceToNat, Int.reduceLT, Int.reduceLE, Nat.reduceSub, pl23, tsize_3, tbytes_3, tagg_3, zcells_3, telem_3, tint_3, tnotIface_3, tsize_4, tbytes_4, tagg_4, zcells_4, telem_4, tbool_4, tnotIface_4, tsize_23, tbytes_23, tagg_23, zcells_23, telem_23, tnotIface_23, tsize_45, tbytes_45, tagg_45, zcells_45, telem_45, tnotIface_45, foff_45_0, foff_45_1, foff_45_2, foff_45_3, fplaces_45, tsize_52, tbytes_52, tagg_52, zcells_52, telem_52, tnotIface_52, ints, bools]
  refine LoopK.intro (fun m a h => ∃ j : Nat, m = (rowOf st cs v).length - j ∧ j ≤ (rowOf st cs v).length ∧ a 2 = bools S ∧ a 7 = .int .i64 (((rowOf st cs v).take j).filter (fun w => S.getD w.toNat false)).length ∧ a 8 = ints (rowOf st cs v) ∧ a 9 = .int .i64 j ∧ h = [patO n n st cs]) (rowOf st cs v).length ⟨0, rfl, Nat.zero_le _, ?_⟩ ?_
  · simp (maxSteps := 4000000) only [↓packA0, ↓packA1, ↓packA2, ↓reduceIte, packB0, packB1, packB2, packB3, packB4, pureOp, quietOp, loadOp, quietB, fr0, cellsK, Option.getD_some, Option.getD_none, implies_true, ite_true, ite_false, eq_self, ne_eq, reduceCtorEq, Nat.reduceLT, Nat.reduceLeDiff, Nat.reduceAdd, Nat.reduceMul, Nat.reduceBEq, Nat.reduceEqDiff, Int.reduceToNat, Int.reduceLT, Int.reduceLE, Nat.reduceSub, pl23, tsize_3, tbytes_3, tagg_3, zcells_3, telem_3, tint_3, tnotIface_3, tsize_4, tbytes_4, tagg_4, zcells_4, telem_4, tbool_4, tnotIface_4, tsize_23, tbytes_23, tagg_23, zcells_23, telem_23, tnotIface_23, tsize_45, tbytes_45, tagg_45, zcells_45, telem_45, tnotIface_45, foff_45_0, foff_45_1, foff_45_2, foff_45_3, fplaces_45, tsize_52, tbytes_52, tagg_52, zcells_52, telem_52, tnotIface_52, ints, bools, patO, Int.natCast_zero]
    rfl
  rintro m a h ⟨j, rfl, hj, a2, a7, a8, a9, rfl⟩
  simp (maxSteps := 4000000) +contextual only [↓packA0, ↓packA1, ↓packA2, ↓reduceIte, packB0, packB1, packB2, packB3, packB4, pureOp, quietOp, loadOp, quietB, fr0, cellsK, Option.getD_some, Option.getD_none, implies_true, ite_true, ite_false, eq_self, ne_eq, reduceCtorEq, Nat.reduceLT, Nat.reduceLeDiff, Nat.reduceAdd, Nat.reduceMul, Nat.reduceBEq, Nat.reduceEqDiff, Int.reduceToNat, Int.reduceLT, Int.reduceLE, Nat.reduceSub, pl23, tsize_3, tbytes_3, tagg_3, zcells_3, telem_3, tint_3, tnotIface_3, tsize_4, tbytes_4, tagg_4, zcells_4, telem_4, tbool_4, tnotIface_4, tsize_23, tbytes_23, tagg_23, zcells_23, telem_23, tnotIface_23, tsize_45, tbytes_45, tagg_45, zcells_45, telem_45, tnotIface_45, foff_45_0, foff_45_1, foff_45_2, foff_45_3, fplaces_45, tsize_52, tbytes_52, tagg_52, zcells_52, telem_52, tnotIface_52, ints, bools, patO, a2, a7, a8, a9]
  refine ⟨fun h2 => ?_, fun h2 => ?_⟩
  · have hj2 : j < (rowOf st cs v).length := by omega
    have h3 := row_nonneg q4 hj2
    have h4 := (q4 j hj2).2
    have hft := ftake (p := fun w : Int => S.getD w.toNat false) hj2
    have hfl : (((rowOf st cs v).take j).filter (fun w : Int => S.getD w.toNat false)).length ≤ 128 := Nat.le_trans (List.length_filter_le _ _) (by simp; omega)
    have hyes : (S.getD ((rowOf st cs v).getD j default).toNat false = true) → (((rowOf st cs v).take (j + 1)).filter (fun w : Int => S.getD w.toNat false)).length = (((rowOf st cs v).take j).filter (fun w : Int => S.getD w.toNat false)).length + 1 := fun h => by rw [hft, if_pos h]
    have hno : ¬ (S.getD ((rowOf st cs v).getD j default).toNat false = true) → (((rowOf st cs v).take (j + 1)).filter (fun w : Int => S.getD w.toNat false)).length = (((rowOf st cs v).take j).filter (fun w : Int => S.getD w.toNat false)).length := fun h => by rw [hft, if_neg h]; rfl
    have keep : ¬ (S.getD ((rowOf st cs v).getD j default).toNat false = true) → ∃ m', m' < (rowOf st cs v).length - j ∧ ∃ j_1, m' = (rowOf st cs v).length - j_1 ∧ j_1 ≤ (rowOf st cs v).length ∧ ((((rowOf st cs v).take j).filter (fun w : Int => S.getD w.toNat false)).length : Int) = (((rowOf st cs v).take j_1).filter (fun w : Int => S.getD w.toNat false)).length ∧ (j : Int) + 1 = j_1 := fun h => ⟨(rowOf st cs v).length - (j + 1), by omega, j + 1, rfl, by omega, by rw [hno h], by omega⟩
    refine ⟨by omega, by omega, fun h5 => ⟨by omega, by omega, by omega, by omega, fun h6 => ⟨by omega, by omega, .inl ⟨(rowOf st cs v).length - (j + 1), by omega, j + 1, rfl, by omega, by rw [hyes h6]; omega, by omega⟩⟩, fun h6 => ⟨by omega, .inl (keep fun hc => by first | exact h6 hc | (rw [show S.getD ((rowOf st cs v).getD j default).toNat default = true from hc] at h6; cases h6))⟩⟩, fun h5 => ⟨by omega, .inl (keep fun hc => ?_)⟩⟩
    rw [List.getD_eq_getElem?_getD, List.getElem?_eq_none (by omega)] at hc
    cases hc
  · obtain rfl : j = (rowOf st cs v).length := by omega
    rw [List.take_length]
    exact .pure _ rfl
set_option maxHeartbeats 8000000 in
set_option maxRecDepth 100000 in
theorem law_sets (rows width : Int) (st cs : List Int) (S : List Bool) (q : Int) (hb : st.length < 10000000) (hb2 : cs.length < 10000000) (hS : S.length < 10000000) : ACalls Try.prog 6 [pat rows width st cs, bools S, .int .i64 q] [] fun v h => OFz h v (.bool true) := by
  have hD := degen_c rows width st cs (by omega) (by omega)
  by_cases hg : graphP rows width st cs
  · replace hD := hD.mono (Q' := fun v h => OFz h v (.tup [.int .i64 (mxK (coresOf st cs rows.toNat) rows.toNat), ints (coresOf st cs rows.toNat), .int .i64 0])) fun u h hh => hh.1 hg
    have hw : APure Try.prog 21 [pat rows width st cs] (.bool false) := by
      have := wrong_c rows width st cs (by omega) (by omega)
      rw [decide_eq_true hg] at this
      exact this
    obtain ⟨n, rfl, rfl, hn⟩ := graph_sides hg
    rw [Int.toNat_natCast] at hD
    have hCl : (coresOf st cs n).length = n := (pst_len st cs n n).2.2
    refine (wp6 rfl rfl ?_)
    simp (maxSteps := 4000000) +contextual only [↓packA0, ↓packA1, ↓packA2, ↓reduceIte, packB0, packB1, packB2, packB3, packB4, pureOp, quietOp, loadOp, quietB, fr0, cellsK, Option.getD_some, Option.getD_none, implies_true, ite_true, ite_false, eq_self, ne_eq, reduceCtorEq, Nat.reduceLT, Nat.reduceLeDiff, Nat.reduceAdd, Nat.reduceMul, Nat.reduceBEq, Nat.reduceEqDiff, Int.reduceToNat, Int.reduceLT, Int.reduceLE, Nat.reduceSub, pl6, tsize_3, tbytes_3, tagg_3, zcells_3, telem_3, tint_3, tnotIface_3, tsize_4, tbytes_4, tagg_4, zcells_4, telem_4, tbool_4, tnotIface_4, tsize_23, tbytes_23, tagg_23, zcells_23, telem_23, tnotIface_23, tsize_45, tbytes_45, tagg_45, zcells_45, telem_45, tnotIface_45, foff_45_0, foff_45_1, foff_45_2, foff_45_3, fplaces_45, tsize_52, tbytes_52, tagg_52, zcells_52, telem_52, tnotIface_52, tsize_53, tbytes_53, tagg_53, zcells_53, telem_53, tint_53, tnotIface_53, ints, bools]
    refine acalls_fresh hD ?_ (fun u h0 hz => ⟨_, hz, ?_⟩)
    · exact .cons (.pure _ rfl) .nil
    simp (maxSteps := 4000000) +contextual only [↓packA0, ↓packA1, ↓packA2, ↓reduceIte, packB0, packB1, packB2, packB3, packB4, pureOp, quietOp, loadOp, quietB, fr0, cellsK, Option.getD_some, Option.getD_none, implies_true, ite_true, ite_false, eq_self, ne_eq, reduceCtorEq, Nat.reduceLT, Nat.reduceLeDiff, Nat.reduceAdd, Nat.reduceMul, Nat.reduceBEq, Nat.reduceEqDiff, Int.reduceToNat, Int.reduceLT, Int.reduceLE, Nat.reduceSub, pl6, tsize_3, tbytes_3, tagg_3, zcells_3, telem_3, tint_3, tnotIface_3, tsize_4, tbytes_4, tagg_4, zcells_4, telem_4, tbool_4, tnotIface_4, tsize_23, tbytes_23, tagg_23, zcells_23, telem_23, tnotIface_23, tsize_45, tbytes_45, tagg_45, zcells_45, telem_45, tnotIface_45, foff_45_0, foff_45_1, foff_45_2, foff_45_3, fplaces_45, tsize_52, tbytes_52, tagg_52, zcells_52, telem_52, tnotIface_52, tsize_53, tbytes_53, tagg_53, zcells_53, telem_53, tint_53, tnotIface_53, ints, bools]
    refine acalls_pure hw rfl ?_
    simp (maxSteps := 4000000) +contextual only [↓packA0, ↓packA1, ↓packA2, ↓reduceIte, packB0, packB1, packB2, packB3, packB4, pureOp, quietOp, loadOp, quietB, fr0, cellsK, Option.getD_some, Option.getD_none, implies_true, ite_true, ite_false, eq_self, ne_eq, reduceCtorEq, Nat.reduceLT, Nat.reduceLeDiff, Nat.reduceAdd, Nat.reduceMul, Nat.reduceBEq, Nat.reduceEqDiff, Int.reduceToNat, Int.reduceLT, Int.reduceLE, Nat.reduceSub, pl6, tsize_3, tbytes_3, tagg_3, zcells_3, telem_3, tint_3, tnotIface_3, tsize_4, tbytes_4, tagg_4, zcells_4, telem_4, tbool_4, tnotIface_4, tsize_23, tbytes_23, tagg_23, zcells_23, telem_23, tnotIface_23, tsize_45, tbytes_45, tagg_45, zcells_45, telem_45, tnotIface_45, foff_45_0, foff_45_1, foff_45_2, foff_45_3, fplaces_45, tsize_52, tbytes_52, tagg_52, zcells_52, telem_52, tnotIface_52, tsize_53, tbytes_53, tagg_53, zcells_53, telem_53, tint_53, tnotIface_53, ints, bools]
    refine ⟨fun hq0 => ?_, fun hq0 => ⟨fun hq1 => ?_, fun hq1 => ?_⟩⟩
    · refine wp22 rfl rfl ?_
      simp (maxSteps := 4000000) +contextual only [↓packA0, ↓packA1, ↓packA2, ↓reduceIte, packB0, packB1, packB2, packB3, packB4, pureOp, quietOp, loadOp, quietB, fr0, cellsK, Option.getD_some, Option.getD_none, implies_true, ite_true, ite_false, eq_self, ne_eq, reduceCtorEq, Nat.reduceLT, Nat.reduceLeDiff, Nat.reduceAdd, Nat.reduceMul, Nat.reduceBEq, Nat.reduceEqDiff, Int.reduceToNat, Int.reduceLT, Int.reduceLE, Nat.reduceSub, pl22, pl6, tsize_3, tbytes_3, tagg_3, zcells_3, telem_3, tint_3, tnotIface_3, tsize_4, tbytes_4, tagg_4, zcells_4, telem_4, tbool_4, tnotIface_4, tsize_23, tbytes_23, tagg_23, zcells_23, telem_23, tnotIface_23, tsize_45, tbytes_45, tagg_45, zcells_45, telem_45, tnotIface_45, foff_45_0, foff_45_1, foff_45_2, foff_45_3, fplaces_45, tsize_52, tbytes_52, tagg_52, zcells_52, telem_52, tnotIface_52, tsize_53, tbytes_53, tagg_53, zcells_53, telem_53, tint_53, tnotIface_53, ints, bools, Int.cast_ofNat_Int, Int.natCast_zero, Int.natCast_one, Int.reduceAdd, Int.reduceSub, Int.reduceNeg, Int.reduceMul, Int.reduceToNat, Int.reduceLT, Int.reduceLE, Int.reduceEq, Int.reduceBEq, Int.reduceBNe, Nat.reduceSub, Nat.reduceLT, List.getD_cons_zero, List.getD_cons_succ, List.length_singleton, Bool.and_true, Bool.and_false]
      refine acalls_pure hw rfl ?_
      simp (maxSteps := 4000000) +contextual only [↓packA0, ↓packA1, ↓packA2, ↓reduceIte, packB0, packB1, packB2, packB3, packB4, pureOp, quietOp, loadOp, quietB, fr0, cellsK, Option.getD_some, Option.getD_none, implies_true, ite_true, ite_false, eq_self, ne_eq, reduceCtorEq, Nat.reduceLT, Nat.reduceLeDiff, Nat.reduceAdd, Nat.reduceMul, Nat.reduceBEq, Nat.reduceEqDiff, Int.reduceToNat, Int.reduceLT, Int.reduceLE, Nat.reduceSub, pl6, tsize_3, tbytes_3, tagg_3, zcells_3, telem_3, tint_3, tnotIface_3, tsize_4, tbytes_4, tagg_4, zcells_4, telem_4, tbool_4, tnotIface_4, tsize_23, tbytes_23, tagg_23, zcells_23, telem_23, tnotIface_23, tsize_45, tbytes_45, tagg_45, zcells_45, telem_45, tnotIface_45, foff_45_0, foff_45_1, foff_45_2, foff_45_3, fplaces_45, tsize_52, tbytes_52, tagg_52, zcells_52, telem_52, tnotIface_52, tsize_53, tbytes_53, tagg_53, zcells_53, telem_53, tint_53, tnotIface_53, ints, bools]
      refine acalls_fresh alive_c .nil (fun u h0 hz => ⟨_, hz, ?_⟩)
      simp (maxSteps := 4000000) +contextual only [↓packA0, ↓packA1, ↓packA2, ↓reduceIte, packB0, packB1, packB2, packB3, packB4, pureOp, quietOp, loadOp, quietB, fr0, cellsK, Option.getD_some, Option.getD_none, implies_true, ite_true, ite_false, eq_self, ne_eq, reduceCtorEq, Nat.reduceLT, Nat.reduceLeDiff, Nat.reduceAdd, Nat.reduceMul, Nat.reduceBEq, Nat.reduceEqDiff, Int.reduceToNat, Int.reduceLT, Int.reduceLE, Nat.reduceSub, pl6, tsize_3, tbytes_3, tagg_3, zcells_3, telem_3, tint_3, tnotIface_3, tsize_4, tbytes_4, tagg_4, zcells_4, telem_4, tbool_4, tnotIface_4, tsize_23, tbytes_23, tagg_23, zcells_23, telem_23, tnotIface_23, tsize_45, tbytes_45, tagg_45, zcells_45, telem_45, tnotIface_45, foff_45_0, foff_45_1, foff_45_2, foff_45_3, fplaces_45, tsize_52, tbytes_52, tagg_52, zcells_52, telem_52, tnotIface_52, tsize_53, tbytes_53, tagg_53, zcells_53, telem_53, tint_53, tnotIface_53, ints, bools]
      exact .flat _ rfl
    · refine wp22 rfl rfl ?_
      simp (maxSteps := 4000000) +contextual only [↓packA0, ↓packA1, ↓packA2, ↓reduceIte, packB0, packB1, packB2, packB3, packB4, pureOp, quietOp, loadOp, quietB, fr0, cellsK, Option.getD_some, Option.getD_none, implies_true, ite_true, ite_false, eq_self, ne_eq, reduceCtorEq, Nat.reduceLT, Nat.reduceLeDiff, Nat.reduceAdd, Nat.reduceMul, Nat.reduceBEq, Nat.reduceEqDiff, Int.reduceToNat, Int.reduceLT, Int.reduceLE, Nat.reduceSub, pl22, pl6, tsize_3, tbytes_3, tagg_3, zcells_3, telem_3, tint_3, tnotIface_3, tsize_4, tbytes_4, tagg_4, zcells_4, telem_4, tbool_4, tnotIface_4, tsize_23, tbytes_23, tagg_23, zcells_23, telem_23, tnotIface_23, tsize_45, tbytes_45, tagg_45, zcells_45, telem_45, tnotIface_45, foff_45_0, foff_45_1, foff_45_2, foff_45_3, fplaces_45, tsize_52, tbytes_52, tagg_52, zcells_52, telem_52, tnotIface_52, tsize_53, tbytes_53, tagg_53, zcells_53, telem_53, tint_53, tnotIface_53, ints, bools, Int.cast_ofNat_Int, Int.natCast_zero, Int.natCast_one, Int.reduceAdd, Int.reduceSub, Int.reduceNeg, Int.reduceMul, Int.reduceToNat, Int.reduceLT, Int.reduceLE, Int.reduceEq, Int.reduceBEq, Int.reduceBNe, Nat.reduceSub, Nat.reduceLT, List.getD_cons_zero, List.getD_cons_succ, List.length_singleton, Bool.and_true, Bool.and_false]
      refine acalls_pure hw rfl ?_
      simp (maxSteps := 4000000) +contextual only [↓packA0, ↓packA1, ↓packA2, ↓reduceIte, packB0, packB1, packB2, packB3, packB4, pureOp, quietOp, loadOp, quietB, fr0, cellsK, Option.getD_some, Option.getD_none, implies_true, ite_true, ite_false, eq_self, ne_eq, reduceCtorEq, Nat.reduceLT, Nat.reduceLeDiff, Nat.reduceAdd, Nat.reduceMul, Nat.reduceBEq, Nat.reduceEqDiff, Int.reduceToNat, Int.reduceLT, Int.reduceLE, Nat.reduceSub, pl6, tsize_3, tbytes_3, tagg_3, zcells_3, telem_3, tint_3, tnotIface_3, tsize_4, tbytes_4, tagg_4, zcells_4, telem_4, tbool_4, tnotIface_4, tsize_23, tbytes_23, tagg_23, zcells_23, telem_23, tnotIface_23, tsize_45, tbytes_45, tagg_45, zcells_45, telem_45, tnotIface_45, foff_45_0, foff_45_1, foff_45_2, foff_45_3, fplaces_45, tsize_52, tbytes_52, tagg_52, zcells_52, telem_52, tnotIface_52, tsize_53, tbytes_53, tagg_53, zcells_53, telem_53, tint_53, tnotIface_53, ints, bools]
      refine acalls_fresh alive_c .nil (fun u h0 hz => ⟨_, hz, ?_⟩)
      simp (maxSteps := 4000000) +contextual only [↓packA0, ↓packA1, ↓packA2, ↓reduceIte, packB0, packB1, packB2, packB3, packB4, pureOp, quietOp, loadOp, quietB, fr0, cellsK, Option.getD_some, Option.getD_none, implies_true, ite_true, ite_false, eq_self, ne_eq, reduceCtorEq, Nat.reduceLT, Nat.reduceLeDiff, Nat.reduceAdd, Nat.reduceMul, Nat.reduceBEq, Nat.reduceEqDiff, Int.reduceToNat, Int.reduceLT, Int.reduceLE, Nat.reduceSub, pl6, tsize_3, tbytes_3, tagg_3, zcells_3, telem_3, tint_3, tnotIface_3, tsize_4, tbytes_4, tagg_4, zcells_4, telem_4, tbool_4, tnotIface_4, tsize_23, tbytes_23, tagg_23, zcells_23, telem_23, tnotIface_23, tsize_45, tbytes_45, tagg_45, zcells_45, telem_45, tnotIface_45, foff_45_0, foff_45_1, foff_45_2, foff_45_3, fplaces_45, tsize_52, tbytes_52, tagg_52, zcells_52, telem_52, tnotIface_52, tsize_53, tbytes_53, tagg_53, zcells_53, telem_53, tint_53, tnotIface_53, ints, bools]
      exact .flat _ rfl
    obtain ⟨k, rfl⟩ := Int.eq_ofNat_of_zero_le (show 0 ≤ q by omega)
    refine wp22 rfl rfl ?_
    simp (maxSteps := 4000000) +contextual only [↓packA0, ↓packA1, ↓packA2, ↓reduceIte, packB0, packB1, packB2, packB3, packB4, pureOp, quietOp, loadOp, quietB, fr0, cellsK, Option.getD_some, Option.getD_none, implies_true, ite_true, ite_false, eq_self, ne_eq, reduceCtorEq, Nat.reduceLT, Nat.reduceLeDiff, Nat.reduceAdd, Nat.reduceMul, Nat.reduceBEq, Nat.reduceEqDiff, Int.reduceToNat, Int.reduceLT, Int.reduceLE, Nat.reduceSub, pl22, pl6, tsize_3, tbytes_3, tagg_3, zcells_3, telem_3, tint_3, tnotIface_3, tsize_4, tbytes_4, tagg_4, zcells_4, telem_4, tbool_4, tnotIface_4, tsize_23, tbytes_23, tagg_23, zcells_23, telem_23, tnotIface_23, tsize_45, tbytes_45, tagg_45, zcells_45, telem_45, tnotIface_45, foff_45_0, foff_45_1, foff_45_2, foff_45_3, fplaces_45, tsize_52, tbytes_52, tagg_52, zcells_52, telem_52, tnotIface_52, tsize_53, tbytes_53, tagg_53, zcells_53, telem_53, tint_53, tnotIface_53, ints, bools, Int.cast_ofNat_Int, Int.natCast_zero, Int.natCast_one, Int.reduceAdd, Int.reduceSub, Int.reduceNeg, Int.reduceMul, Int.reduceToNat, Int.reduceLT, Int.reduceLE, Int.reduceEq, Int.reduceBEq, Int.reduceBNe, Nat.reduceSub, Nat.reduceLT, List.getD_cons_zero, List.getD_cons_succ, List.length_singleton, Bool.and_true, Bool.and_false]
    refine ⟨fun hc => absurd (by omega) hc, fun _ => ?_⟩
    have hd0 := (mxK_ge (C := coresOf st cs n) n).1
    have hdg := (mxK_ge (C := coresOf st cs n) n).2
    generalize hdd : mxK (coresOf st cs n) n = d at *
    refine LoopK.intro (fun m a h => ∃ (v : Nat) (M : Int), m = n - v ∧ v ≤ n ∧ ((M = -1 ∧ ∀ u, u < v → ¬ S.getD u false = true) ∨ (0 ≤ M ∧ (∀ u, u < v → S.getD u false = true → M ≤ cnt st cs S u) ∧ ∃ u, u < v ∧ S.getD u false = true)) ∧ a 1 = bools S ∧ a 2 = .int .i64 k ∧ a 3 = .op 0 4 0 0 ∧ a 7 = .int .i64 d ∧ a 8 = ints (coresOf st cs n) ∧ a 10 = .int .i64 M ∧ a 11 = .int .i64 v ∧ h = [patO n n st cs]) n ⟨0, -1, rfl, Nat.zero_le _, .inl ⟨rfl, fun u hu => by omega⟩, ?_⟩ ?_
    · simp (maxSteps := 4000000) only [↓packA0, ↓packA1, ↓packA2, ↓reduceIte, packB0, packB1, packB2, packB3, packB4, pureOp, quietOp, loadOp, quietB, fr0, cellsK, Option.getD_some, Option.getD_none, implies_true, ite_true, ite_false, eq_self, ne_eq, reduceCtorEq, Nat.reduceLT, Nat.reduceLeDiff, Nat.reduceAdd, Nat.reduceMul, Nat.reduceBEq, Nat.reduceEqDiff, Int.reduceToNat, Int.reduceLT, Int.reduceLE, Nat.reduceSub, pl6, tsize_3, tbytes_3, tagg_3, zcells_3, telem_3, tint_3, tnotIface_3, tsize_4, tbytes_4, tagg_4, zcells_4, telem_4, tbool_4, tnotIface_4, tsize_23, tbytes_23, tagg_23, zcells_23, telem_23, tnotIface_23, tsize_45, tbytes_45, tagg_45, zcells_45, telem_45, tnotIface_45, foff_45_0, foff_45_1, foff_45_2, foff_45_3, fplaces_45, tsize_52, tbytes_52, tagg_52, zcells_52, telem_52, tnotIface_52, tsize_53, tbytes_53, tagg_53, zcells_53, telem_53, tint_53, tnotIface_53, ints, bools, patO, Int.natCast_zero]
    rintro m a h ⟨v, M, rfl, hv, hM, a1, a2, a3, a7, a8, a10, a11, rfl⟩
    simp (maxSteps := 4000000) +contextual only [↓packA0, ↓packA1, ↓packA2, ↓reduceIte, packB0, packB1, packB2, packB3, packB4, pureOp, quietOp, loadOp, quietB, fr0, cellsK, Option.getD_some, Option.getD_none, implies_true, ite_true, ite_false, eq_self, ne_eq, reduceCtorEq, Nat.reduceLT, Nat.reduceLeDiff, Nat.reduceAdd, Nat.reduceMul, Nat.reduceBEq, Nat.reduceEqDiff, Int.reduceToNat, Int.reduceLT, Int.reduceLE, Nat.reduceSub, pl6, tsize_3, tbytes_3, tagg_3, zcells_3, telem_3, tint_3, tnotIface_3, tsize_4, tbytes_4, tagg_4, zcells_4, telem_4, tbool_4, tnotIface_4, tsize_23, tbytes_23, tagg_23, zcells_23, telem_23, tnotIface_23, tsize_45, tbytes_45, tagg_45, zcells_45, telem_45, tnotIface_45, foff_45_0, foff_45_1, foff_45_2, foff_45_3, fplaces_45, tsize_52, tbytes_52, tagg_52, zcells_52, telem_52, tnotIface_52, tsize_53, tbytes_53, tagg_53, zcells_53, telem_53, tint_53, tnotIface_53, ints, bools, patO, a1, a2, a3, a7, a8, a10, a11]
    have skip : ¬ S.getD v false = true → ((M = -1 ∧ ∀ u, u < v + 1 → ¬ S.getD u false = true) ∨ (0 ≤ M ∧ (∀ u, u < v + 1 → S.getD u false = true → M ≤ cnt st cs S u) ∧ ∃ u, u < v + 1 ∧ S.getD u false = true)) := fun hn4 => by
      rcases hM with ⟨h5, h6⟩ | ⟨h5, h6, u0, h7, h8⟩
      · refine .inl ⟨h5, fun u hu => ?_⟩
        rcases Nat.lt_or_ge u v with h9 | h9
        · exact h6 u h9
        · rw [show u = v by omega]; exact hn4
      · refine .inr ⟨h5, fun u hu hs => ?_, u0, by omega, h8⟩
        rcases Nat.lt_or_ge u v with h9 | h9
        · exact h6 u h9 hs
        · rw [show u = v by omega] at hs; exact absurd hs hn4
    refine ⟨fun h2 => ⟨fun h3 => ⟨by omega, by omega, fun h4 => acalls_pure (inside_c n st cs S (by omega) (by omega) hg.1.1 hn v (by omega) (by omega)) rfl ?_, fun h4 => ?_⟩, fun h3 => ?_⟩, fun h2 => ?_⟩
    · have h4' : S.getD v false = true := h4
      simp (maxSteps := 4000000) +contextual only [↓packA0, ↓packA1, ↓packA2, ↓reduceIte, packB0, packB1, packB2, packB3, packB4, pureOp, quietOp, loadOp, quietB, fr0, cellsK, Option.getD_some, Option.getD_none, implies_true, ite_true, ite_false, eq_self, ne_eq, reduceCtorEq, Nat.reduceLT, Nat.reduceLeDiff, Nat.reduceAdd, Nat.reduceMul, Nat.reduceBEq, Nat.reduceEqDiff, Int.reduceToNat, Int.reduceLT, Int.reduceLE, Nat.reduceSub, pl6, tsize_3, tbytes_3, tagg_3, zcells_3, telem_3, tint_3, tnotIface_3, tsize_4, tbytes_4, tagg_4, zcells_4, telem_4, tbool_4, tnotIface_4, tsize_23, tbytes_23, tagg_23, zcells_23, telem_23, tnotIface_23, tsize_45, tbytes_45, tagg_45, zcells_45, telem_45, tnotIface_45, foff_45_0, foff_45_1, foff_45_2, foff_45_3, fplaces_45, tsize_52, tbytes_52, tagg_52, zcells_52, telem_52, tnotIface_52, tsize_53, tbytes_53, tagg_53, zcells_53, telem_53, tint_53, tnotIface_53, ints, bools, patO, a1, a2, a3, a7, a8, a10, a11]
      refine ⟨fun h5 => ⟨by omega, .inl ⟨n - (v + 1), by omega, v + 1, _, rfl, by omega, .inr ⟨by omega, fun u hu hs => ?_, v, by omega, h4'⟩, rfl, by omega⟩⟩, fun h5 => ⟨fun h6 => ⟨by omega, .inl ⟨n - (v + 1), by omega, v + 1, _, rfl, by omega, .inr ⟨by omega, fun u hu hs => ?_, v, by omega, h4'⟩, rfl, by omega⟩⟩, fun h6 => ⟨by omega, .inl ⟨n - (v + 1), by omega, v + 1, M, rfl, by omega, .inr ⟨by omega, fun u hu hs => ?_, v, by omega, h4'⟩, rfl, by omega⟩⟩⟩⟩
      · rcases hM with ⟨h7, h8⟩ | ⟨h7, h8⟩
        · rcases Nat.lt_or_ge u v with h9 | h9
          · exact absurd hs (h8 u h9)
          · rw [show u = v by omega]; exact Int.le_refl _
        · omega
      · rcases hM with ⟨h7, h8⟩ | ⟨h7, h8, _⟩
        · omega
        · rcases Nat.lt_or_ge u v with h9 | h9
          · have := h8 u h9 hs; omega
          · rw [show u = v by omega]; exact Int.le_refl _
      · rcases hM with ⟨h7, h8⟩ | ⟨h7, h8, _⟩
        · omega
        · rcases Nat.lt_or_ge u v with h9 | h9
          · exact h8 u h9 hs
          · rw [show u = v by omega]; omega
    · have h4' : ¬ S.getD v false = true := fun hc => by first | exact h4 hc | (rw [show S.getD v default = true from hc] at h4; cases h4)
      exact ⟨by omega, .inl ⟨n - (v + 1), by omega, v + 1, M, rfl, by omega, skip h4', rfl, by omega⟩⟩
    · have h4' : ¬ S.getD v false = true := fun hc => by
        rw [List.getD_eq_getElem?_getD, List.getElem?_eq_none (by omega)] at hc
        cases hc
      exact ⟨by omega, .inl ⟨n - (v + 1), by omega, v + 1, M, rfl, by omega, skip h4', rfl, by omega⟩⟩
    · obtain rfl : v = n := by omega
      have hge : ∀ u, u < v → S.getD u false = true → M ≤ (coresOf st cs v).getD u default := fun u hu hs => by
        rcases hM with ⟨h7, h8⟩ | ⟨h7, h8, _⟩
        · exact absurd hs (h8 u hu)
        · have := core_ge hg.1.1 (T := S) (q := M.toNat) (fun w hw hws => by have := h8 w hw hws; omega) u hu hs
          omega
      have hMd : ¬ d < M := by
        rcases hM with ⟨h7, h8⟩ | ⟨h7, h8, u0, h9, h10⟩
        · omega
        · have h11 := hge u0 h9 h10
          have h12 := hdg u0 h9
          omega
      refine ⟨fun h3 => absurd h3 hMd, fun _ => ⟨by omega, ?_⟩⟩
      clear hM skip
      refine LoopK.intro (fun m a h => ∃ (u : Nat) (T : List Bool), m = v - u ∧ u ≤ v ∧ T.length = v ∧ (∀ w, w < u → (T.getD w false = true ↔ (k : Int) ≤ (coresOf st cs v).getD w default)) ∧ a 1 = bools S ∧ a 2 = .int .i64 k ∧ a 3 = .op 0 4 0 0 ∧ a 8 = ints (coresOf st cs v) ∧ a 10 = .int .i64 M ∧ a 13 = .osl 1 1 0 v v true ∧ a 14 = .int .i64 u ∧ h = [patO v v st cs, Ob.arr 1 (List.map boolE T) true]) v ⟨0, List.replicate v false, rfl, Nat.zero_le _, by simp, fun w hw => by omega, ?_⟩ ?_
      · simp (maxSteps := 4000000) only [↓packA0, ↓packA1, ↓packA2, ↓reduceIte, packB0, packB1, packB2, packB3, packB4, pureOp, quietOp, loadOp, quietB, fr0, cellsK, Option.getD_some, Option.getD_none, implies_true, ite_true, ite_false, eq_self, ne_eq, reduceCtorEq, Nat.reduceLT, Nat.reduceLeDiff, Nat.reduceAdd, Nat.reduceMul, Nat.reduceBEq, Nat.reduceEqDiff, Int.reduceToNat, Int.reduceLT, Int.reduceLE, Nat.reduceSub, pl6, tsize_3, tbytes_3, tagg_3, zcells_3, telem_3, tint_3, tnotIface_3, tsize_4, tbytes_4, tagg_4, zcells_4, telem_4, tbool_4, tnotIface_4, tsize_23, tbytes_23, tagg_23, zcells_23, telem_23, tnotIface_23, tsize_45, tbytes_45, tagg_45, zcells_45, telem_45, tnotIface_45, foff_45_0, foff_45_1, foff_45_2, foff_45_3, fplaces_45, tsize_52, tbytes_52, tagg_52, zcells_52, telem_52, tnotIface_52, tsize_53, tbytes_53, tagg_53, zcells_53, telem_53, tint_53, tnotIface_53, ints, bools, patO, a1, a2, a3, a7, a8, a10, Int.natCast_zero]
      clear a1 a2 a3 a7 a8 a10 a11
      rintro m a h ⟨u, T, rfl, hu, hT, hTs, a1, a2, a3, a8, a10, a13, a14, rfl⟩
      simp (maxSteps := 4000000) +contextual only [↓packA0, ↓packA1, ↓packA2, ↓reduceIte, packB0, packB1, packB2, packB3, packB4, pureOp, quietOp, loadOp, quietB, fr0, cellsK, Option.getD_some, Option.getD_none, implies_true, ite_true, ite_false, eq_self, ne_eq, reduceCtorEq, Nat.reduceLT, Nat.reduceLeDiff, Nat.reduceAdd, Nat.reduceMul, Nat.reduceBEq, Nat.reduceEqDiff, Int.reduceToNat, Int.reduceLT, Int.reduceLE, Nat.reduceSub, pl6, tsize_3, tbytes_3, tagg_3, zcells_3, telem_3, tint_3, tnotIface_3, tsize_4, tbytes_4, tagg_4, zcells_4, telem_4, tbool_4, tnotIface_4, tsize_23, tbytes_23, tagg_23, zcells_23, telem_23, tnotIface_23, tsize_45, tbytes_45, tagg_45, zcells_45, telem_45, tnotIface_45, foff_45_0, foff_45_1, foff_45_2, foff_45_3, fplaces_45, tsize_52, tbytes_52, tagg_52, zcells_52, telem_52, tnotIface_52, tsize_53, tbytes_53, tagg_53, zcells_53, telem_53, tint_53, tnotIface_53, ints, bools, patO, a1, a2, a3, a8, a10, a13, a14]
      have hT' : u < v → ∀ w, w < u + 1 → ((T.set u (decide ((k : Int) ≤ (coresOf st cs v).getD u default))).getD w false = true ↔ (k : Int) ≤ (coresOf st cs v).getD w default) := fun huv w hw => by
        by_cases e : u = w
        · subst e
          simp [List.getD_eq_getElem?_getD, List.getElem?_set_self (show u < T.length by omega)]
        · rw [show (T.set u (decide ((k : Int) ≤ (coresOf st cs v).getD u default))).getD w false = T.getD w false by simp only [List.getD_eq_getElem?_getD, List.getElem?_set_ne e]]
          exact hTs w (by omega)
      refine ⟨fun h3 => ⟨fun h4 => ⟨by omega, by omega, fun h5 => ⟨by omega, by omega, fun h6 => ?_, fun h6 => ⟨by omega, by omega, by omega, by omega, by omega, .inl ⟨v - (u + 1), by omega, u + 1, _, rfl, by omega, by simp [hT], hT' (by omega), by omega, rfl⟩⟩⟩, fun h5 => ⟨by omega, by omega, by omega, by omega, by omega, .inl ⟨v - (u + 1), by omega, u + 1, _, rfl, by omega, by simp [hT], hT' (by omega), by omega, rfl⟩⟩⟩, fun h4 => ⟨by omega, by omega, by omega, by omega, by omega, .inl ⟨v - (u + 1), by omega, u + 1, _, rfl, by omega, by simp [hT], hT' (by omega), by omega, rfl⟩⟩⟩, fun h3 => ?_⟩
      · have := hge u (by omega) h5
        omega
      · obtain rfl : u = v := by omega
        have hin := core_le hg.1.1 hTs
        refine LoopK.intro (fun m a h => ∃ (w : Nat), m = u - w ∧ w ≤ u ∧ a 2 = .int .i64 k ∧ a 3 = .op 0 4 0 0 ∧ a 13 = .osl 1 1 0 u u true ∧ a 15 = .int .i64 w ∧ h = [patO u u st cs, Ob.arr 1 (List.map boolE T) true]) u ⟨0, rfl, Nat.zero_le _, ?_⟩ ?_
        · simp (maxSteps := 4000000) only [↓packA0, ↓packA1, ↓packA2, ↓reduceIte, packB0, packB1, packB2, packB3, packB4, pureOp, quietOp, loadOp, quietB, fr0, cellsK, Option.getD_some, Option.getD_none, implies_true, ite_true, ite_false, eq_self, ne_eq, reduceCtorEq, Nat.reduceLT, Nat.reduceLeDiff, Nat.reduceAdd, Nat.reduceMul, Nat.reduceBEq, Nat.reduceEqDiff, Int.reduceToNat, Int.reduceLT, Int.reduceLE, Nat.reduceSub, pl6, tsize_3, tbytes_3, tagg_3, zcells_3, telem_3, tint_3, tnotIface_3, tsize_4, tbytes_4, tagg_4, zcells_4, telem_4, tbool_4, tnotIface_4, tsize_23, tbytes_23, tagg_23, zcells_23, telem_23, tnotIface_23, tsize_45, tbytes_45, tagg_45, zcells_45, telem_45, tnotIface_45, foff_45_0, foff_45_1, foff_45_2, foff_45_3, fplaces_45, tsize_52, tbytes_52, tagg_52, zcells_52, telem_52, tnotIface_52, tsize_53, tbytes_53, tagg_53, zcells_53, telem_53, tint_53, tnotIface_53, ints, bools, patO, a2, a3, a13, Int.natCast_zero]
        clear a1 a2 a3 a8 a10 a13 a14
        rintro m a h ⟨w, rfl, hw, a2, a3, a13, a15, rfl⟩
        simp (maxSteps := 4000000) +contextual only [↓packA0, ↓packA1, ↓packA2, ↓reduceIte, packB0, packB1, packB2, packB3, packB4, pureOp, quietOp, loadOp, quietB, fr0, cellsK, Option.getD_some, Option.getD_none, implies_true, ite_true, ite_false, eq_self, ne_eq, reduceCtorEq, Nat.reduceLT, Nat.reduceLeDiff, Nat.reduceAdd, Nat.reduceMul, Nat.reduceBEq, Nat.reduceEqDiff, Int.reduceToNat, Int.reduceLT, Int.reduceLE, Nat.reduceSub, pl6, tsize_3, tbytes_3, tagg_3, zcells_3, telem_3, tint_3, tnotIface_3, tsize_4, tbytes_4, tagg_4, zcells_4, telem_4, tbool_4, tnotIface_4, tsize_23, tbytes_23, tagg_23, zcells_23, telem_23, tnotIface_23, tsize_45, tbytes_45, tagg_45, zcells_45, telem_45, tnotIface_45, foff_45_0, foff_45_1, foff_45_2, foff_45_3, fplaces_45, tsize_52, tbytes_52, tagg_52, zcells_52, telem_52, tnotIface_52, tsize_53, tbytes_53, tagg_53, zcells_53, telem_53, tint_53, tnotIface_53, ints, bools, patO, a2, a3, a13, a15]
        refine ⟨fun h4 => ⟨by omega, by omega, fun h5 => acalls_lend (inside_c u st cs T (by omega) (by omega) hg.1.1 hn w (by omega) (by omega)) ?_ rfl ?_, fun h5 => ⟨by omega, .inl ⟨u - (w + 1), by omega, w + 1, rfl, by omega, by omega⟩⟩⟩, fun h4 => ?_⟩
        · exact .cons (.pure _ rfl) (.cons (.pure _ rfl) (.cons (frz_bools (l := T) rfl hT) .nil))
        · have h6 := hin w (by omega) h5
          simp (maxSteps := 4000000) +contextual only [↓packA0, ↓packA1, ↓packA2, ↓reduceIte, packB0, packB1, packB2, packB3, packB4, pureOp, quietOp, loadOp, quietB, fr0, cellsK, Option.getD_some, Option.getD_none, implies_true, ite_true, ite_false, eq_self, ne_eq, reduceCtorEq, Nat.reduceLT, Nat.reduceLeDiff, Nat.reduceAdd, Nat.reduceMul, Nat.reduceBEq, Nat.reduceEqDiff, Int.reduceToNat, Int.reduceLT, Int.reduceLE, Nat.reduceSub, pl6, tsize_3, tbytes_3, tagg_3, zcells_3, telem_3, tint_3, tnotIface_3, tsize_4, tbytes_4, tagg_4, zcells_4, telem_4, tbool_4, tnotIface_4, tsize_23, tbytes_23, tagg_23, zcells_23, telem_23, tnotIface_23, tsize_45, tbytes_45, tagg_45, zcells_45, telem_45, tnotIface_45, foff_45_0, foff_45_1, foff_45_2, foff_45_3, fplaces_45, tsize_52, tbytes_52, tagg_52, zcells_52, telem_52, tnotIface_52, tsize_53, tbytes_53, tagg_53, zcells_53, telem_53, tint_53, tnotIface_53, ints, bools, patO, a2, a3, a13, a15]
          refine ⟨fun h7 => ⟨fun h8 => by omega, fun h8 => ⟨by omega, .inl ⟨u - (w + 1), by omega, w + 1, rfl, by omega, by omega⟩⟩⟩, fun h7 => absurd h5 (fun hc => by first | exact h7 hc | (rw [hc] at h7; cases h7))⟩
        · refine acalls_fresh alive_c .nil (fun u h0 hz => ⟨_, hz, ?_⟩)
          exact .flat _ rfl
  · replace hD := hD.mono (Q' := fun v h => OFz h v (.tup [.int .i64 0, ints [], .int .i64 220])) fun u h hh => hh.2 hg
    have hw : APure Try.prog 21 [pat rows width st cs] (.bool true) := by
      have := wrong_c rows width st cs (by omega) (by omega)
      rw [decide_eq_false hg] at this
      exact this
    refine (wp6 rfl rfl ?_)
    simp (maxSteps := 4000000) +contextual only [↓packA0, ↓packA1, ↓packA2, ↓reduceIte, packB0, packB1, packB2, packB3, packB4, pureOp, quietOp, loadOp, quietB, fr0, cellsK, Option.getD_some, Option.getD_none, implies_true, ite_true, ite_false, eq_self, ne_eq, reduceCtorEq, Nat.reduceLT, Nat.reduceLeDiff, Nat.reduceAdd, Nat.reduceMul, Nat.reduceBEq, Nat.reduceEqDiff, Int.reduceToNat, Int.reduceLT, Int.reduceLE, Nat.reduceSub, pl6, tsize_3, tbytes_3, tagg_3, zcells_3, telem_3, tint_3, tnotIface_3, tsize_4, tbytes_4, tagg_4, zcells_4, telem_4, tbool_4, tnotIface_4, tsize_23, tbytes_23, tagg_23, zcells_23, telem_23, tnotIface_23, tsize_45, tbytes_45, tagg_45, zcells_45, telem_45, tnotIface_45, foff_45_0, foff_45_1, foff_45_2, foff_45_3, fplaces_45, tsize_52, tbytes_52, tagg_52, zcells_52, telem_52, tnotIface_52, tsize_53, tbytes_53, tagg_53, zcells_53, telem_53, tint_53, tnotIface_53, ints, bools]
    refine acalls_fresh hD ?_ (fun u h0 hz => ⟨_, hz, ?_⟩)
    · exact .cons (.pure _ rfl) .nil
    simp (maxSteps := 4000000) +contextual only [↓packA0, ↓packA1, ↓packA2, ↓reduceIte, packB0, packB1, packB2, packB3, packB4, pureOp, quietOp, loadOp, quietB, fr0, cellsK, Option.getD_some, Option.getD_none, implies_true, ite_true, ite_false, eq_self, ne_eq, reduceCtorEq, Nat.reduceLT, Nat.reduceLeDiff, Nat.reduceAdd, Nat.reduceMul, Nat.reduceBEq, Nat.reduceEqDiff, Int.reduceToNat, Int.reduceLT, Int.reduceLE, Nat.reduceSub, pl6, tsize_3, tbytes_3, tagg_3, zcells_3, telem_3, tint_3, tnotIface_3, tsize_4, tbytes_4, tagg_4, zcells_4, telem_4, tbool_4, tnotIface_4, tsize_23, tbytes_23, tagg_23, zcells_23, telem_23, tnotIface_23, tsize_45, tbytes_45, tagg_45, zcells_45, telem_45, tnotIface_45, foff_45_0, foff_45_1, foff_45_2, foff_45_3, fplaces_45, tsize_52, tbytes_52, tagg_52, zcells_52, telem_52, tnotIface_52, tsize_53, tbytes_53, tagg_53, zcells_53, telem_53, tint_53, tnotIface_53, ints, bools]
    refine acalls_pure hw rfl ?_
    simp (maxSteps := 4000000) +contextual only [↓packA0, ↓packA1, ↓packA2, ↓reduceIte, packB0, packB1, packB2, packB3, packB4, pureOp, quietOp, loadOp, quietB, fr0, cellsK, Option.getD_some, Option.getD_none, implies_true, ite_true, ite_false, eq_self, ne_eq, reduceCtorEq, Nat.reduceLT, Nat.reduceLeDiff, Nat.reduceAdd, Nat.reduceMul, Nat.reduceBEq, Nat.reduceEqDiff, Int.reduceToNat, Int.reduceLT, Int.reduceLE, Nat.reduceSub, pl6, tsize_3, tbytes_3, tagg_3, zcells_3, telem_3, tint_3, tnotIface_3, tsize_4, tbytes_4, tagg_4, zcells_4, telem_4, tbool_4, tnotIface_4, tsize_23, tbytes_23, tagg_23, zcells_23, telem_23, tnotIface_23, tsize_45, tbytes_45, tagg_45, zcells_45, telem_45, tnotIface_45, foff_45_0, foff_45_1, foff_45_2, foff_45_3, fplaces_45, tsize_52, tbytes_52, tagg_52, zcells_52, telem_52, tnotIface_52, tsize_53, tbytes_53, tagg_53, zcells_53, telem_53, tint_53, tnotIface_53, ints, bools]
    refine wp22 rfl rfl ?_
    simp (maxSteps := 4000000) +contextual only [↓packA0, ↓packA1, ↓packA2, ↓reduceIte, packB0, packB1, packB2, packB3, packB4, pureOp, quietOp, loadOp, quietB, fr0, cellsK, Option.getD_some, Option.getD_none, implies_true, ite_true, ite_false, eq_self, ne_eq, reduceCtorEq, Nat.reduceLT, Nat.reduceLeDiff, Nat.reduceAdd, Nat.reduceMul, Nat.reduceBEq, Nat.reduceEqDiff, Int.reduceToNat, Int.reduceLT, Int.reduceLE, Nat.reduceSub, pl22, pl6, tsize_3, tbytes_3, tagg_3, zcells_3, telem_3, tint_3, tnotIface_3, tsize_4, tbytes_4, tagg_4, zcells_4, telem_4, tbool_4, tnotIface_4, tsize_23, tbytes_23, tagg_23, zcells_23, telem_23, tnotIface_23, tsize_45, tbytes_45, tagg_45, zcells_45, telem_45, tnotIface_45, foff_45_0, foff_45_1, foff_45_2, foff_45_3, fplaces_45, tsize_52, tbytes_52, tagg_52, zcells_52, telem_52, tnotIface_52, tsize_53, tbytes_53, tagg_53, zcells_53, telem_53, tint_53, tnotIface_53, ints, bools, Int.cast_ofNat_Int, Int.natCast_zero, Int.natCast_one, Int.reduceAdd, Int.reduceSub, Int.reduceNeg, Int.reduceMul, Int.reduceToNat, Int.reduceLT, Int.reduceLE, Int.reduceEq, Int.reduceBEq, Int.reduceBNe, Nat.reduceSub, Nat.reduceLT, List.getD_cons_zero, List.getD_cons_succ, List.length_singleton, Bool.and_true, Bool.and_false]
    refine acalls_pure hw rfl ?_
    simp (maxSteps := 4000000) +contextual only [↓packA0, ↓packA1, ↓packA2, ↓reduceIte, packB0, packB1, packB2, packB3, packB4, pureOp, quietOp, loadOp, quietB, fr0, cellsK, Option.getD_some, Option.getD_none, implies_true, ite_true, ite_false, eq_self, ne_eq, reduceCtorEq, Nat.reduceLT, Nat.reduceLeDiff, Nat.reduceAdd, Nat.reduceMul, Nat.reduceBEq, Nat.reduceEqDiff, Int.reduceToNat, Int.reduceLT, Int.reduceLE, Nat.reduceSub, pl6, tsize_3, tbytes_3, tagg_3, zcells_3, telem_3, tint_3, tnotIface_3, tsize_4, tbytes_4, tagg_4, zcells_4, telem_4, tbool_4, tnotIface_4, tsize_23, tbytes_23, tagg_23, zcells_23, telem_23, tnotIface_23, tsize_45, tbytes_45, tagg_45, zcells_45, telem_45, tnotIface_45, foff_45_0, foff_45_1, foff_45_2, foff_45_3, fplaces_45, tsize_52, tbytes_52, tagg_52, zcells_52, telem_52, tnotIface_52, tsize_53, tbytes_53, tagg_53, zcells_53, telem_53, tint_53, tnotIface_53, ints, bools]
    refine acalls_fresh alive_c .nil (fun u h0 hz => ⟨_, hz, ?_⟩)
    simp (maxSteps := 4000000) +contextual only [↓packA0, ↓packA1, ↓packA2, ↓reduceIte, packB0, packB1, packB2, packB3, packB4, pureOp, quietOp, loadOp, quietB, fr0, cellsK, Option.getD_some, Option.getD_none, implies_true, ite_true, ite_false, eq_self, ne_eq, reduceCtorEq, Nat.reduceLT, Nat.reduceLeDiff, Nat.reduceAdd, Nat.reduceMul, Nat.reduceBEq, Nat.reduceEqDiff, Int.reduceToNat, Int.reduceLT, Int.reduceLE, Nat.reduceSub, pl6, tsize_3, tbytes_3, tagg_3, zcells_3, telem_3, tint_3, tnotIface_3, tsize_4, tbytes_4, tagg_4, zcells_4, telem_4, tbool_4, tnotIface_4, tsize_23, tbytes_23, tagg_23, zcells_23, telem_23, tnotIface_23, tsize_45, tbytes_45, tagg_45, zcells_45, telem_45, tnotIface_45, foff_45_0, foff_45_1, foff_45_2, foff_45_3, fplaces_45, tsize_52, tbytes_52, tagg_52, zcells_52, telem_52, tnotIface_52, tsize_53, tbytes_53, tagg_53, zcells_53, telem_53, tint_53, tnotIface_53, ints, bools]
    exact .flat _ rfl
end Go.Proofs.Ytgdlkhgfehclpaa
end

section
/- The law OrderNames, walked. No condition. -/
namespace Go.Proofs.Ytgdlkhgfehclpaa
open Go Go.AL
set_option linter.unusedVariables false
set_option linter.unusedSimpArgs false
theorem bc_frz {F : Nat → Prop} {h : Heap} {x : AV} {l : List Int} (hb : BC F h x l) : Frz h x (ints l) := by
  rcases hb with ⟨rfl, rfl⟩ | ⟨id, len, cap, ex, es, ex', rfl, q1, q2, q3, q4, q5, rfl⟩
  · exact .nils 1
  · exact frz_ints q2 rfl (by simp; omega)
def F2 : Nat → Prop := fun i => i < 2
set_option maxHeartbeats 8000000 in
set_option maxRecDepth 100000 in
theorem law_names (rows width : Int) (st cs xs ys : List Int) (hb : st.length < 10000000) (hb2 : cs.length < 10000000) (hbx : xs.length < 10000000) (hby : ys.length < 10000000) : ACalls Try.prog 11 [pat rows width st cs, ints xs, ints ys] [] fun v h => OFz h v (.bool true) := by
  by_cases hg : graphP rows width st cs
  · have hw : APure Try.prog 21 [pat rows width st cs] (.bool false) := by
      have := wrong_c rows width st cs (by omega) (by omega)
      rw [decide_eq_true hg] at this
      exact this
    obtain ⟨n, rfl, rfl, hn⟩ := graph_sides hg
    refine (wp11 rfl rfl ?_)
    simp (maxSteps := 4000000) +contextual only [↓packA0, ↓packA1, ↓packA2, ↓reduceIte, packB0, packB1, packB2, packB3, packB4, pureOp, quietOp, loadOp, quietB, fr0, cellsK, Option.getD_some, Option.getD_none, implies_true, ite_true, ite_false, eq_self, ne_eq, reduceCtorEq, Nat.reduceLT, Nat.reduceLeDiff, Nat.reduceAdd, Nat.reduceMul, Nat.reduceBEq, Nat.reduceEqDiff, Int.reduceToNat, Int.reduceLT, Int.reduceLE, Nat.reduceSub, pl11, tfun_1, telem_1, tsize_3, tbytes_3, tagg_3, zcells_3, telem_3, tint_3, tnotIface_3, tsize_23, tbytes_23, tagg_23, zcells_23, telem_23, tnotIface_23, tsize_45, tbytes_45, tagg_45, zcells_45, telem_45, tnotIface_45, foff_45_0, foff_45_1, foff_45_2, foff_45_3, fplaces_45, tsize_53, tbytes_53, tagg_53, zcells_53, telem_53, tint_53, tnotIface_53, ints]
    refine acalls_pure hw rfl ?_
    simp (maxSteps := 4000000) +contextual only [↓packA0, ↓packA1, ↓packA2, ↓reduceIte, packB0, packB1, packB2, packB3, packB4, pureOp, quietOp, loadOp, quietB, fr0, cellsK, Option.getD_some, Option.getD_none, implies_true, ite_true, ite_false, eq_self, ne_eq, reduceCtorEq, Nat.reduceLT, Nat.reduceLeDiff, Nat.reduceAdd, Nat.reduceMul, Nat.reduceBEq, Nat.reduceEqDiff, Int.reduceToNat, Int.reduceLT, Int.reduceLE, Nat.reduceSub, pl11, tfun_1, telem_1, tsize_3, tbytes_3, tagg_3, zcells_3, telem_3, tint_3, tnotIface_3, tsize_23, tbytes_23, tagg_23, zcells_23, telem_23, tnotIface_23, tsize_45, tbytes_45, tagg_45, zcells_45, telem_45, tnotIface_45, foff_45_0, foff_45_1, foff_45_2, foff_45_3, fplaces_45, tsize_53, tbytes_53, tagg_53, zcells_53, telem_53, tint_53, tnotIface_53, ints]
    refine acalls_pure (checkr_c n xs) rfl ?_
    simp (maxSteps := 4000000) +contextual only [↓packA0, ↓packA1, ↓packA2, ↓reduceIte, packB0, packB1, packB2, packB3, packB4, pureOp, quietOp, loadOp, quietB, fr0, cellsK, Option.getD_some, Option.getD_none, implies_true, ite_true, ite_false, eq_self, ne_eq, reduceCtorEq, Nat.reduceLT, Nat.reduceLeDiff, Nat.reduceAdd, Nat.reduceMul, Nat.reduceBEq, Nat.reduceEqDiff, Int.reduceToNat, Int.reduceLT, Int.reduceLE, Nat.reduceSub, pl11, tfun_1, telem_1, tsize_3, tbytes_3, tagg_3, zcells_3, telem_3, tint_3, tnotIface_3, tsize_23, tbytes_23, tagg_23, zcells_23, telem_23, tnotIface_23, tsize_45, tbytes_45, tagg_45, zcells_45, telem_45, tnotIface_45, foff_45_0, foff_45_1, foff_45_2, foff_45_3, fplaces_45, tsize_53, tbytes_53, tagg_53, zcells_53, telem_53, tint_53, tnotIface_53, ints]
    refine ⟨fun h1 => ?_, fun h1 => acalls_pure (checkr_c n ys) rfl ?_⟩
    · refine acalls_fresh alive_c .nil (fun u h0 hz => ⟨_, hz, ?_⟩)
      simp (maxSteps := 4000000) +contextual only [↓packA0, ↓packA1, ↓packA2, ↓reduceIte, packB0, packB1, packB2, packB3, packB4, pureOp, quietOp, loadOp, quietB, fr0, cellsK, Option.getD_some, Option.getD_none, implies_true, ite_true, ite_false, eq_self, ne_eq, reduceCtorEq, Nat.reduceLT, Nat.reduceLeDiff, Nat.reduceAdd, Nat.reduceMul, Nat.reduceBEq, Nat.reduceEqDiff, Int.reduceToNat, Int.reduceLT, Int.reduceLE, Nat.reduceSub, pl11, tfun_1, telem_1, tsize_3, tbytes_3, tagg_3, zcells_3, telem_3, tint_3, tnotIface_3, tsize_23, tbytes_23, tagg_23, zcells_23, telem_23, tnotIface_23, tsize_45, tbytes_45, tagg_45, zcells_45, telem_45, tnotIface_45, foff_45_0, foff_45_1, foff_45_2, foff_45_3, fplaces_45, tsize_53, tbytes_53, tagg_53, zcells_53, telem_53, tint_53, tnotIface_53]
      exact .flat _ rfl
    simp (maxSteps := 4000000) +contextual only [↓packA0, ↓packA1, ↓packA2, ↓reduceIte, packB0, packB1, packB2, packB3, packB4, pureOp, quietOp, loadOp, quietB, fr0, cellsK, Option.getD_some, Option.getD_none, implies_true, ite_true, ite_false, eq_self, ne_eq, reduceCtorEq, Nat.reduceLT, Nat.reduceLeDiff, Nat.reduceAdd, Nat.reduceMul, Nat.reduceBEq, Nat.reduceEqDiff, Int.reduceToNat, Int.reduceLT, Int.reduceLE, Nat.reduceSub, pl11, tfun_1, telem_1, tsize_3, tbytes_3, tagg_3, zcells_3, telem_3, tint_3, tnotIface_3, tsize_23, tbytes_23, tagg_23, zcells_23, telem_23, tnotIface_23, tsize_45, tbytes_45, tagg_45, zcells_45, telem_45, tnotIface_45, foff_45_0, foff_45_1, foff_45_2, foff_45_3, fplaces_45, tsize_53, tbytes_53, tagg_53, zcells_53, telem_53, tint_53, tnotIface_53, ints, h1]
    refine ⟨fun h2 => ?_, fun h2 => ?_⟩
    · refine acalls_fresh alive_c .nil (fun u h0 hz => ⟨_, hz, ?_⟩)
      simp (maxSteps := 4000000) +contextual only [↓packA0, ↓packA1, ↓packA2, ↓reduceIte, packB0, packB1, packB2, packB3, packB4, pureOp, quietOp, loadOp, quietB, fr0, cellsK, Option.getD_some, Option.getD_none, implies_true, ite_true, ite_false, eq_self, ne_eq, reduceCtorEq, Nat.reduceLT, Nat.reduceLeDiff, Nat.reduceAdd, Nat.reduceMul, Nat.reduceBEq, Nat.reduceEqDiff, Int.reduceToNat, Int.reduceLT, Int.reduceLE, Nat.reduceSub, pl11, tfun_1, telem_1, tsize_3, tbytes_3, tagg_3, zcells_3, telem_3, tint_3, tnotIface_3, tsize_23, tbytes_23, tagg_23, zcells_23, telem_23, tnotIface_23, tsize_45, tbytes_45, tagg_45, zcells_45, telem_45, tnotIface_45, foff_45_0, foff_45_1, foff_45_2, foff_45_3, fplaces_45, tsize_53, tbytes_53, tagg_53, zcells_53, telem_53, tint_53, tnotIface_53]
      exact .flat _ rfl
    obtain ⟨_, _, hxl, hord⟩ := checkR_zero h1
    obtain ⟨_, _, hyl, hoy⟩ := checkR_zero h2
    rw [← hxl] at hord
    rw [← hyl] at hoy
    replace hxl : xs.length = n := by omega
    replace hyl : ys.length = n := by omega
    have hm := hg.1.1
    have hgq := graph_q hg hn hxl hord
    have hsl : (stQ st cs xs n n).length < 1000000000 := by rw [stQ_len]; omega
    have hcl : (csQ st cs xs n n).length < 1000000000 := by
      have h3 := csQ_len (st := st) (cs := cs) (xs := xs) (n := n) n
      have h4 : n * n ≤ 128 * 128 := Nat.mul_le_mul hn hn
      omega
    have hCl : (coresOf st cs n).length = n := (pst_len st cs n n).2.2
    have hCl' : (coresOf (stQ st cs xs n n) (csQ st cs xs n n) n).length = n := (pst_len _ _ n n).2.2
    have hcq := fun i (hi : i < n) => cores_q hg hn hxl hord hi
    have hmq : mxK (coresOf (stQ st cs xs n n) (csQ st cs xs n n) n) n = mxK (coresOf st cs n) n := mx_perm hxl hord hcq
    have hD1 := (degen_c n n st cs (by omega) (by omega)).mono (Q' := fun v h => OFz h v (.tup [.int .i64 (mxK (coresOf st cs n) n), ints (coresOf st cs n), .int .i64 0])) fun u h hh => by have := hh.1 hg; rw [Int.toNat_natCast] at this; exact this
    have hD2 := (degen_c n n (stQ st cs xs n n) (csQ st cs xs n n) hsl hcl).mono (Q' := fun v h => OFz h v (.tup [.int .i64 (mxK (coresOf st cs n) n), ints (coresOf (stQ st cs xs n n) (csQ st cs xs n n) n), .int .i64 0])) fun u h hh => by have := hh.1 hgq; rw [Int.toNat_natCast, hmq] at this; exact this
    have hty := there_ok hxl hord hyl hoy
    have htl : (thereOf xs ys).length = n := by rw [there_len]; exact hyl
    have hct : checkR n (thereOf xs ys) = 0 := by
      have := checkR_ok (xs := thereOf xs ys) (by omega) hty
      rwa [htl] at this
    have hiy : invR ys = invK ys ys.length := (invR_ok (by rw [hyl]; exact h2)).1
    have hit : invR (thereOf xs ys) = invK (thereOf xs ys) (thereOf xs ys).length := (invR_ok (by rw [htl]; exact hct)).1
    have hbk : ∀ i, i < n → (bkL (stQ st cs xs n n) (csQ st cs xs n n) (invK ys ys.length) n).getD i default = (bkL st cs (invK (thereOf xs ys) (thereOf xs ys).length) n).getD (xs.getD i default).toNat default := fun i hi => by
      obtain ⟨a, ha, han⟩ := xs_in hxl hord hi
      rw [bkL_get hi, backs_q hg hxl hord hyl hoy hi, ha, Int.toNat_natCast, bkL_get han]
    have hB1 := back_c n n (stQ st cs xs n n) (csQ st cs xs n n) ys hsl hcl (by omega)
    rw [show backV n n (stQ st cs xs n n) (csQ st cs xs n n) ys = .tup [.int .i64 (mxK (bkL st cs (invK (thereOf xs ys) (thereOf xs ys).length) n) n), ints (bkL (stQ st cs xs n n) (csQ st cs xs n n) (invK ys ys.length) n), .int .i64 0] from (if_pos hgq).trans ((if_pos h2).trans (by rw [Int.toNat_natCast, hiy, mx_perm hxl hord hbk]))] at hB1
    have hB2 := back_c n n st cs (thereOf xs ys) (by omega) (by omega) (by omega)
    rw [show backV n n st cs (thereOf xs ys) = .tup [.int .i64 (mxK (bkL st cs (invK (thereOf xs ys) (thereOf xs ys).length) n) n), ints (bkL st cs (invK (thereOf xs ys) (thereOf xs ys).length) n), .int .i64 0] from (if_pos hg).trans ((if_pos hct).trans (by rw [Int.toNat_natCast, hit]))] at hB2
    have hbl1 : (bkL (stQ st cs xs n n) (csQ st cs xs n n) (invK ys ys.length) n).length = n := bkL_len
    have hbl2 : (bkL st cs (invK (thereOf xs ys) (thereOf xs ys).length) n).length = n := bkL_len
    have hR := renamed_c n st cs xs (by omega) (by omega) hm hn hxl hord
    generalize mxK (coresOf st cs n) n = d at *
    generalize mxK (bkL st cs (invK (thereOf xs ys) (thereOf xs ys).length) n) n = b at *
    generalize bkL (stQ st cs xs n n) (csQ st cs xs n n) (invK ys ys.length) n = BQ at *
    generalize bkL st cs (invK (thereOf xs ys) (thereOf xs ys).length) n = BT at *
    generalize coresOf (stQ st cs xs n n) (csQ st cs xs n n) n = CQ at *
    generalize coresOf st cs n = CP at *
    generalize stQ st cs xs n n = sq at *
    generalize csQ st cs xs n n = cq at *
    refine acalls_fresh hR ?_ (fun u h0 hz => ⟨_, hz, ?_⟩)
    · exact .cons (.pure _ rfl) (.cons (.pure _ rfl) .nil)
    simp (maxSteps := 4000000) +contextual only [↓packA0, ↓packA1, ↓packA2, ↓reduceIte, packB0, packB1, packB2, packB3, packB4, pureOp, quietOp, loadOp, quietB, fr0, cellsK, Option.getD_some, Option.getD_none, implies_true, ite_true, ite_false, eq_self, ne_eq, reduceCtorEq, Nat.reduceLT, Nat.reduceLeDiff, Nat.reduceAdd, Nat.reduceMul, Nat.reduceBEq, Nat.reduceEqDiff, Int.reduceToNat, Int.reduceLT, Int.reduceLE, Nat.reduceSub, pl11, tfun_1, telem_1, tsize_3, tbytes_3, tagg_3, zcells_3, telem_3, tint_3, tnotIface_3, tsize_23, tbytes_23, tagg_23, zcells_23, telem_23, tnotIface_23, tsize_45, tbytes_45, tagg_45, zcells_45, telem_45, tnotIface_45, foff_45_0, foff_45_1, foff_45_2, foff_45_3, fplaces_45, tsize_53, tbytes_53, tagg_53, zcells_53, telem_53, tint_53, tnotIface_53, patch, ints]
    refine acalls_fresh hD1 ?_ (fun u h0 hz => ⟨_, hz, ?_⟩)
    · exact .cons (.pure _ rfl) .nil
    simp (maxSteps := 4000000) +contextual only [↓packA0, ↓packA1, ↓packA2, ↓reduceIte, packB0, packB1, packB2, packB3, packB4, pureOp, quietOp, loadOp, quietB, fr0, cellsK, Option.getD_some, Option.getD_none, implies_true, ite_true, ite_false, eq_self, ne_eq, reduceCtorEq, Nat.reduceLT, Nat.reduceLeDiff, Nat.reduceAdd, Nat.reduceMul, Nat.reduceBEq, Nat.reduceEqDiff, Int.reduceToNat, Int.reduceLT, Int.reduceLE, Nat.reduceSub, pl11, tfun_1, telem_1, tsize_3, tbytes_3, tagg_3, zcells_3, telem_3, tint_3, tnotIface_3, tsize_23, tbytes_23, tagg_23, zcells_23, telem_23, tnotIface_23, tsize_45, tbytes_45, tagg_45, zcells_45, telem_45, tnotIface_45, foff_45_0, foff_45_1, foff_45_2, foff_45_3, fplaces_45, tsize_53, tbytes_53, tagg_53, zcells_53, telem_53, tint_53, tnotIface_53, patch, ints]
    refine acalls_fresh hD2 ?_ (fun u h0 hz => ⟨_, hz, ?_⟩)
    · exact .cons (.pure _ rfl) .nil
    simp (maxSteps := 4000000) +contextual only [↓packA0, ↓packA1, ↓packA2, ↓reduceIte, packB0, packB1, packB2, packB3, packB4, pureOp, quietOp, loadOp, quietB, fr0, cellsK, Option.getD_some, Option.getD_none, implies_true, ite_true, ite_false, eq_self, ne_eq, reduceCtorEq, Nat.reduceLT, Nat.reduceLeDiff, Nat.reduceAdd, Nat.reduceMul, Nat.reduceBEq, Nat.reduceEqDiff, Int.reduceToNat, Int.reduceLT, Int.reduceLE, Nat.reduceSub, pl11, tfun_1, telem_1, tsize_3, tbytes_3, tagg_3, zcells_3, telem_3, tint_3, tnotIface_3, tsize_23, tbytes_23, tagg_23, zcells_23, telem_23, tnotIface_23, tsize_45, tbytes_45, tagg_45, zcells_45, telem_45, tnotIface_45, foff_45_0, foff_45_1, foff_45_2, foff_45_3, fplaces_45, tsize_53, tbytes_53, tagg_53, zcells_53, telem_53, tint_53, tnotIface_53, patch, ints]
    refine wp22 rfl rfl ?_
    simp (maxSteps := 4000000) +contextual only [↓packA0, ↓packA1, ↓packA2, ↓reduceIte, packB0, packB1, packB2, packB3, packB4, pureOp, quietOp, loadOp, quietB, fr0, cellsK, Option.getD_some, Option.getD_none, implies_true, ite_true, ite_false, eq_self, ne_eq, reduceCtorEq, Nat.reduceLT, Nat.reduceLeDiff, Nat.reduceAdd, Nat.reduceMul, Nat.reduceBEq, Nat.reduceEqDiff, Int.reduceToNat, Int.reduceLT, Int.reduceLE, Nat.reduceSub, pl22, pl11, tfun_1, telem_1, tsize_3, tbytes_3, tagg_3, zcells_3, telem_3, tint_3, tnotIface_3, tsize_23, tbytes_23, tagg_23, zcells_23, telem_23, tnotIface_23, tsize_45, tbytes_45, tagg_45, zcells_45, telem_45, tnotIface_45, foff_45_0, foff_45_1, foff_45_2, foff_45_3, fplaces_45, tsize_53, tbytes_53, tagg_53, zcells_53, telem_53, tint_53, tnotIface_53, patch, ints]
    refine wp22 rfl rfl ?_
    simp (maxSteps := 4000000) +contextual only [↓packA0, ↓packA1, ↓packA2, ↓reduceIte, packB0, packB1, packB2, packB3, packB4, pureOp, quietOp, loadOp, quietB, fr0, cellsK, Option.getD_some, Option.getD_none, implies_true, ite_true, ite_false, eq_self, ne_eq, reduceCtorEq, Nat.reduceLT, Nat.reduceLeDiff, Nat.reduceAdd, Nat.reduceMul, Nat.reduceBEq, Nat.reduceEqDiff, Int.reduceToNat, Int.reduceLT, Int.reduceLE, Nat.reduceSub, pl22, pl11, tfun_1, telem_1, tsize_3, tbytes_3, tagg_3, zcells_3, telem_3, tint_3, tnotIface_3, tsize_23, tbytes_23, tagg_23, zcells_23, telem_23, tnotIface_23, tsize_45, tbytes_45, tagg_45, zcells_45, telem_45, tnotIface_45, foff_45_0, foff_45_1, foff_45_2, foff_45_3, fplaces_45, tsize_53, tbytes_53, tagg_53, zcells_53, telem_53, tint_53, tnotIface_53, patch, ints, hCl, hCl']
    refine LoopK.intro (fun m a h => ∃ (i : Nat) (x : AV) (B : Nat → List Int), m = n - i ∧ i ≤ n ∧ PS F2 0 h [[x]] B ∧ B 0 = (thereOf xs ys).take i ∧ h[0]? = some (.arr 4 [[.int .i64 n, .int .i64 n, .isl 1 (List.map intE st), .isl 1 (List.map intE cs)]] true) ∧ h[1]? = some (.arr 4 [[.int .i64 n, .int .i64 n, .isl 1 (List.map intE sq), .isl 1 (List.map intE cq)]] true) ∧
      a 1 = ints xs ∧ a 2 = ints ys ∧ a 3 = .op 0 4 0 0 ∧ a 7 = .op 1 4 0 0 ∧ a 9 = ints CP ∧ a 12 = ints CQ ∧ a 14 = x ∧ a 15 = .int .i64 i) n ⟨0, .nils, fun _ => [], ?_⟩ ?_
    · simp (maxSteps := 4000000) only [↓packA0, ↓packA1, ↓packA2, ↓reduceIte, packB0, packB1, packB2, packB3, packB4, pureOp, quietOp, loadOp, quietB, fr0, cellsK, Option.getD_some, Option.getD_none, implies_true, ite_true, ite_false, eq_self, ne_eq, reduceCtorEq, Nat.reduceLT, Nat.reduceLeDiff, Nat.reduceAdd, Nat.reduceMul, Nat.reduceBEq, Nat.reduceEqDiff, Int.reduceToNat, Int.reduceLT, Int.reduceLE, Nat.reduceSub, pl11, tfun_1, telem_1, tsize_3, tbytes_3, tagg_3, zcells_3, telem_3, tint_3, tnotIface_3, tsize_23, tbytes_23, tagg_23, zcells_23, telem_23, tnotIface_23, tsize_45, tbytes_45, tagg_45, zcells_45, telem_45, tnotIface_45, foff_45_0, foff_45_1, foff_45_2, foff_45_3, fplaces_45, tsize_53, tbytes_53, tagg_53, zcells_53, telem_53, tint_53, tnotIface_53, ints, Int.natCast_zero]
      refine ⟨fun i hi => by simp [F2] at hi ⊢; omega, rfl, fun d hd => ?_, fun d d' x y i hdd hx hy hxi => ?_⟩
      · match d, hd with
        | 0, _ => exact ⟨_, rfl, .inl ⟨rfl, rfl⟩⟩
        | d + 1, h => exact absurd h (by omega)
      · match d with
        | 0 => simp at hx; subst hx; cases hxi
        | d + 1 => simp at hx
    rintro m a h ⟨i, x, B, rfl, hi, hP, hB0, g0, g1, a1, a2, a3, a7, a9, a12, a14, a15⟩
    have hb0 : BC F2 h x (B 0) := by obtain ⟨z, h3, h4⟩ := hP.bc 0 (by omega); simp at h3; subst h3; exact h4
    obtain ⟨N, hN⟩ : ∃ N, h.length = N := ⟨_, rfl⟩
    have l1 : 1 < N := by rw [← hN]; exact (List.getElem?_eq_some_iff.1 g1).1
    have ra : ∀ t i, i < N → (h ++ t)[i]? = h[i]? := fun t i hi => List.getElem?_append_left (by omega)
    have ra0 : ∀ t, (h ++ t)[0]? = h[0]? := fun t => ra t 0 (by omega)
    have ra1 : ∀ t, (h ++ t)[1]? = h[1]? := fun t => ra t 1 (by omega)
    have rN : ∀ o, (h ++ [o])[N]? = some o := fun o => by rw [List.getElem?_append_right (by omega)]; simp [hN]
    have hcqi : i < n → CP.getD (xs.getD i default).toNat default = CQ.getD i default := fun hi => (hcq i hi).symm
    simp (maxSteps := 4000000) +contextual only [↓packA0, ↓packA1, ↓packA2, ↓reduceIte, packB0, packB1, packB2, packB3, packB4, pureOp, quietOp, loadOp, quietB, fr0, cellsK, Option.getD_some, Option.getD_none, implies_true, ite_true, ite_false, eq_self, ne_eq, reduceCtorEq, Nat.reduceLT, Nat.reduceLeDiff, Nat.reduceAdd, Nat.reduceMul, Nat.reduceBEq, Nat.reduceEqDiff, Int.reduceToNat, Int.reduceLT, Int.reduceLE, Nat.reduceSub, pl11, tfun_1, telem_1, tsize_3, tbytes_3, tagg_3, zcells_3, telem_3, tint_3, tnotIface_3, tsize_23, tbytes_23, tagg_23, zcells_23, telem_23, tnotIface_23, tsize_45, tbytes_45, tagg_45, zcells_45, telem_45, tnotIface_45, foff_45_0, foff_45_1, foff_45_2, foff_45_3, fplaces_45, tsize_53, tbytes_53, tagg_53, zcells_53, telem_53, tint_53, tnotIface_53, ints, g0, g1, a1, a2, a3, a7, a9, a12, a14, a15, hN, ra0, ra1, rN]
    refine ⟨fun h3 => ?_, fun h3 => ?_⟩
    · obtain ⟨v, hv, hvn⟩ := xs_in hxl hord (show i < n by omega)
      obtain ⟨w, hw2, hwn⟩ := xs_in hyl hoy (show i < n by omega)
      have hcqi' := hcqi (by omega)
      have htg := there_get (xs := xs) (ys := ys) (show i < ys.length by omega)
      have htk : (thereOf xs ys).take (i + 1) = (thereOf xs ys).take i ++ [xs.getD (ys.getD i default).toNat default] := by
        rw [List.take_add_one, List.getElem?_eq_getElem (show i < (thereOf xs ys).length by omega), ← gd (show i < (thereOf xs ys).length by omega), htg]
        rfl
      have hsz : (B 0).length < 900000 := by
        rw [hB0, List.length_take]
        omega
      refine ⟨by omega, by omega, by omega, by omega, by omega, by omega, fun hc => absurd hcqi'.symm hc, fun _ => ⟨by omega, by omega, by omega, by omega, push_ps (hP.app _) (show 0 ≤ 0 by omega) rfl hsz fun x' G hcx hl' hf' hP' => ?_⟩⟩
      obtain ⟨xi, xl, xc, xe, rfl⟩ := hcx
      have f0 := ((hf' 0 (by simp [F2])).trans (ra0 _)).trans g0
      have f1 := ((hf' 1 (by simp [F2])).trans (ra1 _)).trans g1
      simp (maxSteps := 4000000) +contextual only [↓packA0, ↓packA1, ↓packA2, ↓reduceIte, packB0, packB1, packB2, packB3, packB4, pureOp, quietOp, loadOp, quietB, fr0, cellsK, Option.getD_some, Option.getD_none, implies_true, ite_true, ite_false, eq_self, ne_eq, reduceCtorEq, Nat.reduceLT, Nat.reduceLeDiff, Nat.reduceAdd, Nat.reduceMul, Nat.reduceBEq, Nat.reduceEqDiff, Int.reduceToNat, Int.reduceLT, Int.reduceLE, Nat.reduceSub, pl11, tfun_1, telem_1, tsize_3, tbytes_3, tagg_3, zcells_3, telem_3, tint_3, tnotIface_3, tsize_23, tbytes_23, tagg_23, zcells_23, telem_23, tnotIface_23, tsize_45, tbytes_45, tagg_45, zcells_45, telem_45, tnotIface_45, foff_45_0, foff_45_1, foff_45_2, foff_45_3, fplaces_45, tsize_53, tbytes_53, tagg_53, zcells_53, telem_53, tint_53, tnotIface_53, ints, f0, f1, a1, a2, a3, a7, a9, a12, a14, a15]
      exact ⟨by omega, .inl ⟨n - (i + 1), by omega, i + 1, .osl xi 1 0 xl xc xe, updB B 0 (B 0 ++ [xs.getD (ys.getD i default).toNat default]), rfl, by omega, hP', by rw [updB_same, hB0, htk], rfl, by omega⟩⟩
    · obtain rfl : i = n := by omega
      rw [show (thereOf xs ys).take i = thereOf xs ys from List.take_of_length_le (by omega)] at hB0
      rw [hB0] at hb0
      refine acalls_fresh hB1 ?_ (fun u h0 hz => ⟨_, hz, ?_⟩)
      · exact .cons (.pure _ rfl) (.cons (.pure _ rfl) .nil)
      simp (maxSteps := 4000000) +contextual only [↓packA0, ↓packA1, ↓packA2, ↓reduceIte, packB0, packB1, packB2, packB3, packB4, pureOp, quietOp, loadOp, quietB, fr0, cellsK, Option.getD_some, Option.getD_none, implies_true, ite_true, ite_false, eq_self, ne_eq, reduceCtorEq, Nat.reduceLT, Nat.reduceLeDiff, Nat.reduceAdd, Nat.reduceMul, Nat.reduceBEq, Nat.reduceEqDiff, Int.reduceToNat, Int.reduceLT, Int.reduceLE, Nat.reduceSub, pl11, tfun_1, telem_1, tsize_3, tbytes_3, tagg_3, zcells_3, telem_3, tint_3, tnotIface_3, tsize_23, tbytes_23, tagg_23, zcells_23, telem_23, tnotIface_23, tsize_45, tbytes_45, tagg_45, zcells_45, telem_45, tnotIface_45, foff_45_0, foff_45_1, foff_45_2, foff_45_3, fplaces_45, tsize_53, tbytes_53, tagg_53, zcells_53, telem_53, tint_53, tnotIface_53, ints, g0, g1, a1, a2, a3, a7, a9, a12, a14, a15]
      refine acalls_fresh hB2 ?_ (fun u h0 hz => ⟨_, hz, ?_⟩)
      · exact .cons (.pure _ rfl) (.cons (bc_frz hb0) .nil)
      simp (maxSteps := 4000000) +contextual only [↓packA0, ↓packA1, ↓packA2, ↓reduceIte, packB0, packB1, packB2, packB3, packB4, pureOp, quietOp, loadOp, quietB, fr0, cellsK, Option.getD_some, Option.getD_none, implies_true, ite_true, ite_false, eq_self, ne_eq, reduceCtorEq, Nat.reduceLT, Nat.reduceLeDiff, Nat.reduceAdd, Nat.reduceMul, Nat.reduceBEq, Nat.reduceEqDiff, Int.reduceToNat, Int.reduceLT, Int.reduceLE, Nat.reduceSub, pl11, tfun_1, telem_1, tsize_3, tbytes_3, tagg_3, zcells_3, telem_3, tint_3, tnotIface_3, tsize_23, tbytes_23, tagg_23, zcells_23, telem_23, tnotIface_23, tsize_45, tbytes_45, tagg_45, zcells_45, telem_45, tnotIface_45, foff_45_0, foff_45_1, foff_45_2, foff_45_3, fplaces_45, tsize_53, tbytes_53, tagg_53, zcells_53, telem_53, tint_53, tnotIface_53, ints, g0, g1, a1, a2, a3, a7, a9, a12, a14, a15]
      refine wp22 rfl rfl ?_
      simp (maxSteps := 4000000) +contextual only [↓packA0, ↓packA1, ↓packA2, ↓reduceIte, packB0, packB1, packB2, packB3, packB4, pureOp, quietOp, loadOp, quietB, fr0, cellsK, Option.getD_some, Option.getD_none, implies_true, ite_true, ite_false, eq_self, ne_eq, reduceCtorEq, Nat.reduceLT, Nat.reduceLeDiff, Nat.reduceAdd, Nat.reduceMul, Nat.reduceBEq, Nat.reduceEqDiff, Int.reduceToNat, Int.reduceLT, Int.reduceLE, Nat.reduceSub, pl22, pl11, tfun_1, telem_1, tsize_3, tbytes_3, tagg_3, zcells_3, telem_3, tint_3, tnotIface_3, tsize_23, tbytes_23, tagg_23, zcells_23, telem_23, tnotIface_23, tsize_45, tbytes_45, tagg_45, zcells_45, telem_45, tnotIface_45, foff_45_0, foff_45_1, foff_45_2, foff_45_3, fplaces_45, tsize_53, tbytes_53, tagg_53, zcells_53, telem_53, tint_53, tnotIface_53, ints, g0, g1, a1, a2, a3, a7, a9, a12, a14, a15]
      refine wp22 rfl rfl ?_
      simp (maxSteps := 4000000) +contextual only [↓packA0, ↓packA1, ↓packA2, ↓reduceIte, packB0, packB1, packB2, packB3, packB4, pureOp, quietOp, loadOp, quietB, fr0, cellsK, Option.getD_some, Option.getD_none, implies_true, ite_true, ite_false, eq_self, ne_eq, reduceCtorEq, Nat.reduceLT, Nat.reduceLeDiff, Nat.reduceAdd, Nat.reduceMul, Nat.reduceBEq, Nat.reduceEqDiff, Int.reduceToNat, Int.reduceLT, Int.reduceLE, Nat.reduceSub, pl22, pl11, tfun_1, telem_1, tsize_3, tbytes_3, tagg_3, zcells_3, telem_3, tint_3, tnotIface_3, tsize_23, tbytes_23, tagg_23, zcells_23, telem_23, tnotIface_23, tsize_45, tbytes_45, tagg_45, zcells_45, telem_45, tnotIface_45, foff_45_0, foff_45_1, foff_45_2, foff_45_3, fplaces_45, tsize_53, tbytes_53, tagg_53, zcells_53, telem_53, tint_53, tnotIface_53, ints, g0, g1, a1, a2, a3, a7, a9, a12, a14, a15, hbl1, hbl2]
      refine LoopK.intro (fun m a h1 => ∃ k : Nat, m = i - k ∧ k ≤ i ∧ a 1 = ints xs ∧ a 3 = .op 0 4 0 0 ∧ a 17 = ints BQ ∧ a 20 = ints BT ∧ a 22 = .int .i64 k ∧ h1 = h) i ⟨0, rfl, Nat.zero_le _, ?_⟩ ?_
      · simp (maxSteps := 4000000) only [↓packA0, ↓packA1, ↓packA2, ↓reduceIte, packB0, packB1, packB2, packB3, packB4, pureOp, quietOp, loadOp, quietB, fr0, cellsK, Option.getD_some, Option.getD_none, implies_true, ite_true, ite_false, eq_self, ne_eq, reduceCtorEq, Nat.reduceLT, Nat.reduceLeDiff, Nat.reduceAdd, Nat.reduceMul, Nat.reduceBEq, Nat.reduceEqDiff, Int.reduceToNat, Int.reduceLT, Int.reduceLE, Nat.reduceSub, pl11, tfun_1, telem_1, tsize_3, tbytes_3, tagg_3, zcells_3, telem_3, tint_3, tnotIface_3, tsize_23, tbytes_23, tagg_23, zcells_23, telem_23, tnotIface_23, tsize_45, tbytes_45, tagg_45, zcells_45, telem_45, tnotIface_45, foff_45_0, foff_45_1, foff_45_2, foff_45_3, fplaces_45, tsize_53, tbytes_53, tagg_53, zcells_53, telem_53, tint_53, tnotIface_53, ints, a1, a3, Int.natCast_zero]
      clear a1 a2 a3 a7 a9 a12 a14 a15
      rintro m a h1 ⟨k, rfl, hk, a1, a3, a17, a20, a22, rfl⟩
      simp (maxSteps := 4000000) +contextual only [↓packA0, ↓packA1, ↓packA2, ↓reduceIte, packB0, packB1, packB2, packB3, packB4, pureOp, quietOp, loadOp, quietB, fr0, cellsK, Option.getD_some, Option.getD_none, implies_true, ite_true, ite_false, eq_self, ne_eq, reduceCtorEq, Nat.reduceLT, Nat.reduceLeDiff, Nat.reduceAdd, Nat.reduceMul, Nat.reduceBEq, Nat.reduceEqDiff, Int.reduceToNat, Int.reduceLT, Int.reduceLE, Nat.reduceSub, pl11, tfun_1, telem_1, tsize_3, tbytes_3, tagg_3, zcells_3, telem_3, tint_3, tnotIface_3, tsize_23, tbytes_23, tagg_23, zcells_23, telem_23, tnotIface_23, tsize_45, tbytes_45, tagg_45, zcells_45, telem_45, tnotIface_45, foff_45_0, foff_45_1, foff_45_2, foff_45_3, fplaces_45, tsize_53, tbytes_53, tagg_53, zcells_53, telem_53, tint_53, tnotIface_53, ints, g0, a1, a3, a17, a20, a22]
      refine ⟨fun h3 => ?_, fun h3 => ?_⟩
      · have hb4 := hbk k (by omega)
        obtain ⟨v, hv, hvn⟩ := xs_in hxl hord (show k < i by omega)
        exact ⟨by omega, by omega, by omega, by omega, by omega, by omega, fun hc => absurd hb4 hc, fun _ => ⟨by omega, .inl ⟨i - (k + 1), by omega, k + 1, rfl, by omega, by omega⟩⟩⟩
      · refine acalls_fresh alive_c .nil (fun u h0 hz => ⟨_, hz, ?_⟩)
        first
          | exact OFz.flat _ rfl
          | (simp (maxSteps := 4000000) +contextual only [↓packA0, ↓packA1, ↓packA2, ↓reduceIte, packB0, packB1, packB2, packB3, packB4, pureOp, quietOp, loadOp, quietB, fr0, cellsK, Option.getD_some, Option.getD_none, implies_true, ite_true, ite_false, eq_self, ne_eq, reduceCtorEq, Nat.reduceLT, Nat.reduceLeDiff, Nat.reduceAdd, Nat.reduceMul, Nat.reduceBEq, Nat.reduceEqDiff, Int.reduceToNat, Int.reduceLT, Int.reduceLE, Nat.reduceSub, pl11, tfun_1, telem_1, tsize_3, tbytes_3, tagg_3, zcells_3, telem_3, tint_3, tnotIface_3, tsize_23, tbytes_23, tagg_23, zcells_23, telem_23, tnotIface_23, tsize_45, tbytes_45, tagg_45, zcells_45, telem_45, tnotIface_45, foff_45_0, foff_45_1, foff_45_2, foff_45_3, fplaces_45, tsize_53, tbytes_53, tagg_53, zcells_53, telem_53, tint_53, tnotIface_53]
             exact OFz.flat _ rfl)
  · have hw : APure Try.prog 21 [pat rows width st cs] (.bool true) := by
      have := wrong_c rows width st cs (by omega) (by omega)
      rw [decide_eq_false hg] at this
      exact this
    refine (wp11 rfl rfl ?_)
    simp (maxSteps := 4000000) +contextual only [↓packA0, ↓packA1, ↓packA2, ↓reduceIte, packB0, packB1, packB2, packB3, packB4, pureOp, quietOp, loadOp, quietB, fr0, cellsK, Option.getD_some, Option.getD_none, implies_true, ite_true, ite_false, eq_self, ne_eq, reduceCtorEq, Nat.reduceLT, Nat.reduceLeDiff, Nat.reduceAdd, Nat.reduceMul, Nat.reduceBEq, Nat.reduceEqDiff, Int.reduceToNat, Int.reduceLT, Int.reduceLE, Nat.reduceSub, pl11, tfun_1, telem_1, tsize_3, tbytes_3, tagg_3, zcells_3, telem_3, tint_3, tnotIface_3, tsize_23, tbytes_23, tagg_23, zcells_23, telem_23, tnotIface_23, tsize_45, tbytes_45, tagg_45, zcells_45, telem_45, tnotIface_45, foff_45_0, foff_45_1, foff_45_2, foff_45_3, fplaces_45, tsize_53, tbytes_53, tagg_53, zcells_53, telem_53, tint_53, tnotIface_53, ints]
    refine acalls_pure hw rfl ?_
    simp (maxSteps := 4000000) +contextual only [↓packA0, ↓packA1, ↓packA2, ↓reduceIte, packB0, packB1, packB2, packB3, packB4, pureOp, quietOp, loadOp, quietB, fr0, cellsK, Option.getD_some, Option.getD_none, implies_true, ite_true, ite_false, eq_self, ne_eq, reduceCtorEq, Nat.reduceLT, Nat.reduceLeDiff, Nat.reduceAdd, Nat.reduceMul, Nat.reduceBEq, Nat.reduceEqDiff, Int.reduceToNat, Int.reduceLT, Int.reduceLE, Nat.reduceSub, pl11, tfun_1, telem_1, tsize_3, tbytes_3, tagg_3, zcells_3, telem_3, tint_3, tnotIface_3, tsize_23, tbytes_23, tagg_23, zcells_23, telem_23, tnotIface_23, tsize_45, tbytes_45, tagg_45, zcells_45, telem_45, tnotIface_45, foff_45_0, foff_45_1, foff_45_2, foff_45_3, fplaces_45, tsize_53, tbytes_53, tagg_53, zcells_53, telem_53, tint_53, tnotIface_53, ints]
    refine acalls_fresh alive_c .nil (fun u h0 hz => ⟨_, hz, ?_⟩)
    simp (maxSteps := 4000000) +contextual only [↓packA0, ↓packA1, ↓packA2, ↓reduceIte, packB0, packB1, packB2, packB3, packB4, pureOp, quietOp, loadOp, quietB, fr0, cellsK, Option.getD_some, Option.getD_none, implies_true, ite_true, ite_false, eq_self, ne_eq, reduceCtorEq, Nat.reduceLT, Nat.reduceLeDiff, Nat.reduceAdd, Nat.reduceMul, Nat.reduceBEq, Nat.reduceEqDiff, Int.reduceToNat, Int.reduceLT, Int.reduceLE, Nat.reduceSub, pl11, tfun_1, telem_1, tsize_3, tbytes_3, tagg_3, zcells_3, telem_3, tint_3, tnotIface_3, tsize_23, tbytes_23, tagg_23, zcells_23, telem_23, tnotIface_23, tsize_45, tbytes_45, tagg_45, zcells_45, telem_45, tnotIface_45, foff_45_0, foff_45_1, foff_45_2, foff_45_3, fplaces_45, tsize_53, tbytes_53, tagg_53, zcells_53, telem_53, tint_53, tnotIface_53]
    exact .flat _ rfl
end Go.Proofs.Ytgdlkhgfehclpaa
end

section
/- OrderNames is true of all arguments of the stated size. No condition. -/
namespace Go.Proofs.Ytgdlkhgfehclpaa
open Go Go.AL Go.ChangeShapes Go.WideShapes Go.ChangeAt Go.RowKit
set_option linter.unusedVariables false
set_option linter.unusedSimpArgs false
namespace law11
set_option maxRecDepth 100000 in
theorem contract (H : Type) (enc : TypeId × Value → H) (W : World) (base : Nat) (args : Array Value) (ds gs : List (DataW H)) (before : List MemPlace)
    (hval : ∀ (j : Nat) t v, Try.f11.params[j]? = some t → args[j]? = some v → Value.okWide Try.prog W .any base t v)
    (hW : DataW.Whole enc Try.prog Try.f11.params.toList Rows.orderNamesSpec.vars false W args.toList ds gs before) (hk : Rows.uptoSmall H (ds ++ gs) = true) :
    Calls Try.prog 11 args W fun e W' => ∃ v, e = .returned v ∧ Rows.orderNamesSpec.post enc Try.prog Try.f11 false true false false W args v W' := by
  have hW' := hW
  obtain ⟨p, q, hA0, hV, rfl, hfz, hnd⟩ := hW
  have hA : DataW.TrodAll enc Try.prog W 0 (fun _ => true) true Try.f11.params.toList args.toList ds p := hA0
  rw [Try.params11] at hA hval
  obtain ⟨v0, vs0, d0, ds0, p0, q0, hargs, rfl, rfl, h0, r0⟩ := trodAll_cons hA
  obtain ⟨v1, vs1, d1, ds1, p1, q1, rfl, rfl, rfl, h1, r1⟩ := trodAll_cons r0
  obtain ⟨v2, vs2, d2, ds2, p2, q2, rfl, rfl, rfl, h2, r2⟩ := trodAll_cons r1
  obtain ⟨rfl, rfl, rfl⟩ := trodAll_nil r2
  obtain rfl : args = #[v0, v1, v2] := by cases args; simp_all
  obtain ⟨rfl, rfl⟩ := trodVars_none hV
  have hb := bulk_ok hk
  obtain ⟨fuel0, hf0⟩ := h0
  obtain ⟨pr0, pw0, st0, cs0, hxs0, hst0, hcs0⟩ := open_pat (okWide_struct Try.underlying45 (hval 0 45 v0 rfl rfl)) hf0
  obtain ⟨fuel1, hf1⟩ := h1
  obtain ⟨xs1, hxs1, hlen1⟩ := open_list Try.underlying23 Try.underlying3 (by kernel_rfl) (okWide_slice Try.underlying23 (hval 1 23 v1 rfl rfl)) hf1
  obtain ⟨fuel2, hf2⟩ := h2
  obtain ⟨xs2, hxs2, hlen2⟩ := open_list Try.underlying23 Try.underlying3 (by kernel_rfl) (okWide_slice Try.underlying23 (hval 2 23 v2 rfl rfl)) hf2
  have hb0 : st0.length < 10000000 := by
    have := bulk_part (show d0 ∈ [d0, d1, d2] ++ [] by simp)
    omega
  have hb1 : cs0.length < 10000000 := by
    have := bulk_part (show d0 ∈ [d0, d1, d2] ++ [] by simp)
    omega
  have hb2 : xs1.length < 10000000 := by
    have := bulk_part (show d1 ∈ [d0, d1, d2] ++ [] by simp)
    omega
  have hb3 : xs2.length < 10000000 := by
    have := bulk_part (show d2 ∈ [d0, d1, d2] ++ [] by simp)
    omega
  have hc := calls_true (W := W) (us := [pat pr0 pw0 st0 cs0, ints xs1, ints xs2]) (vs := [v0, v1, v2]) (law_names pr0 pw0 st0 cs0 xs1 xs2 hb0 hb1 hb2 hb3) rfl (fun j u v hu hv => by
    match j with
    | 0 => simp at hu hv; subst hu; subst hv; exact hxs0
    | 1 => simp at hu hv; subst hu; subst hv; exact hxs1
    | 2 => simp at hu hv; subst hu; subst hv; exact hxs2
    | j + 3 => simp at hu)
  refine hc.mono fun e W' ⟨he, hbe⟩ => ?_
  subst he
  exact ⟨_, rfl, post_true hW' hA0 (by rw [Try.params11]; decide +kernel) (by kernel_rfl) rfl rfl hbe⟩
set_option maxRecDepth 100000 in
theorem lifted (os : Os) (started : os.Started) (H : Type) (enc : TypeId × Value → H) (F : Stop.Interp) :
    ReturnsInHanded {} Try.checked os 11 .any ((Rows.OpenSpec.upto Rows.orderNamesSpec).pre6 enc Try.prog Try.f11 Rows.orderNamesUptoRow.domain false) (((Rows.OpenSpec.upto Rows.orderNamesSpec).at F).post enc Try.prog Try.f11 false true false false) := by
  refine returnsInHanded_of_cond (C := Try.checked) (s := Rows.OpenSpec.upto Rows.orderNamesSpec) (k := Rows.uptoSmall) rfl zOwn started (by kernel_rfl) Try.func11
    (OpenSpec.witness (enc := enc) (C := Try.checked) (s := Rows.OpenSpec.upto Rows.orderNamesSpec) (k := Rows.uptoSmall) rfl false ⟨#[], #[.agg #[.int .i64 0, .int .i64 0, .slice none 0 0, .slice none 0 0], .slice none 0 0, .slice none 0 0], []⟩ 8 (by kernel_rfl) (by kernel_rfl) (by kernel_rfl)
      (x := ([.agg [.lit (.int .i64 0), .lit (.int .i64 0), .nil, .nil], .nil, .nil], [], [])) (by kernel_rfl) rfl (by kernel_rfl)) ?_
  intro W base args ds gs before hval hW _ hk _
  exact contract H enc W base args ds gs before hval hW hk
theorem over : Rows.orderNamesUptoRow.holds Try.pinned (Rows.OpenSpec.upto Rows.orderNamesSpec) :=
  OpenClaim.holds_of_cond 11 Try.f11 rfl rfl rfl rfl rfl rfl rfl ⟨rfl, rfl, rfl, rfl, rfl⟩ rfl rfl rfl rfl rfl (by kernel_rfl) Try.func11 (by kernel_rfl)
    (of_decide_eq_true (by kernel_rfl)) (by unfold Func.isWrapper; first | (rw [if_pos (by decide +kernel)]; kernel_rfl) | (rw [if_neg (by decide +kernel)]; exact ⟨rfl, rfl⟩))
    (fun os started H enc _ F => lifted os started H enc F)
end law11
theorem orderNamesProved : Rows.OrderNamesUptoSaid := law11.over
#print axioms orderNamesProved
end Go.Proofs.Ytgdlkhgfehclpaa
end
