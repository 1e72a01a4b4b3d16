/- Texts of one claim bound together: PPa, PPb, PPc, PPd, PPe, POG, POJ, PPf, PPi. -/
import Derived.Test.YtgdlkhgfehclpaaQK6

section
/- The order of incidence, the document's. No condition. -/
namespace Go.Proofs.Ytgdlkhgfehclpaa
open Go Go.AL
set_option linter.unusedVariables false
set_option linter.unusedSimpArgs false
set_option maxRecDepth 100000 in
theorem ahead_c (n : Nat) (st cs : List Int) (S : List Bool) (hb : st.length < 1000000000) (hb2 : cs.length < 1000000000) (hm : mayP n n st cs) (hn : n ≤ 128) (v b : Nat) (hv : v < n) (hbn : b < n) (hS : S.length = n) : APure Try.prog 94 [pat n n st cs, .int .i64 v, .int .i64 b, bools S] (.bool (decide (bts st cs S v b))) := by
  refine apure_of (wp94 rfl rfl ?_)
  simp (maxSteps := 4000000) only [↓packA0, ↓packA1, ↓packA2, ↓reduceIte, packB0, packB1, packB2, packB3, packB4, pureOp, quietOp, loadOp, quietB, fr0, cellsK, Option.getD_some, Option.getD_none, implies_true, ite_true, ite_false, eq_self, ne_eq, reduceCtorEq, Nat.reduceLT, Nat.reduceLeDiff, Nat.reduceAdd, Nat.reduceMul, Nat.reduceBEq, Nat.reduceEqDiff, Int.reduceToNat, Int.reduceLT, Int.reduceLE, Nat.reduceSub, pl94, tsize_3, tbytes_3, tagg_3, zcells_3, telem_3, tint_3, tnotIface_3, tsize_4, tbytes_4, tagg_4, zcells_4, telem_4, tbool_4, tnotIface_4, tsize_23, tbytes_23, tagg_23, zcells_23, telem_23, tnotIface_23, tsize_45, tbytes_45, tagg_45, zcells_45, telem_45, tnotIface_45, foff_45_0, foff_45_1, foff_45_2, foff_45_3, fplaces_45, tsize_52, tbytes_52, tagg_52, zcells_52, telem_52, tnotIface_52, ints]
  refine acalls_pure (among_c n st cs S hb hb2 hm hn v hv hS) rfl ?_
  simp (maxSteps := 4000000) only [↓packA0, ↓packA1, ↓packA2, ↓reduceIte, packB0, packB1, packB2, packB3, packB4, pureOp, quietOp, loadOp, quietB, fr0, cellsK, Option.getD_some, Option.getD_none, implies_true, ite_true, ite_false, eq_self, ne_eq, reduceCtorEq, Nat.reduceLT, Nat.reduceLeDiff, Nat.reduceAdd, Nat.reduceMul, Nat.reduceBEq, Nat.reduceEqDiff, Int.reduceToNat, Int.reduceLT, Int.reduceLE, Nat.reduceSub, pl94, tsize_3, tbytes_3, tagg_3, zcells_3, telem_3, tint_3, tnotIface_3, tsize_4, tbytes_4, tagg_4, zcells_4, telem_4, tbool_4, tnotIface_4, tsize_23, tbytes_23, tagg_23, zcells_23, telem_23, tnotIface_23, tsize_45, tbytes_45, tagg_45, zcells_45, telem_45, tnotIface_45, foff_45_0, foff_45_1, foff_45_2, foff_45_3, fplaces_45, tsize_52, tbytes_52, tagg_52, zcells_52, telem_52, tnotIface_52, ints]
  refine acalls_pure (among_c n st cs S hb hb2 hm hn b hbn hS) rfl ?_
  by_cases c1 : cnt st cs S b < cnt st cs S v
  · have f1 : ((cnt st cs S b : Nat) : Int) < ((cnt st cs S v : Nat) : Int) := by omega
    simp (maxSteps := 4000000) only [↓packA0, ↓packA1, ↓packA2, ↓reduceIte, packB0, packB1, packB2, packB3, packB4, pureOp, quietOp, loadOp, quietB, fr0, cellsK, Option.getD_some, Option.getD_none, implies_true, ite_true, ite_false, eq_self, ne_eq, reduceCtorEq, Nat.reduceLT, Nat.reduceLeDiff, Nat.reduceAdd, Nat.reduceMul, Nat.reduceBEq, Nat.reduceEqDiff, Int.reduceToNat, Int.reduceLT, Int.reduceLE, Nat.reduceSub, pl94, tsize_3, tbytes_3, tagg_3, zcells_3, telem_3, tint_3, tnotIface_3, tsize_4, tbytes_4, tagg_4, zcells_4, telem_4, tbool_4, tnotIface_4, tsize_23, tbytes_23, tagg_23, zcells_23, telem_23, tnotIface_23, tsize_45, tbytes_45, tagg_45, zcells_45, telem_45, tnotIface_45, foff_45_0, foff_45_1, foff_45_2, foff_45_3, fplaces_45, tsize_52, tbytes_52, tagg_52, zcells_52, telem_52, tnotIface_52, ints, f1]
    rw [decide_eq_true (show bts st cs S v b from .inl c1)]
    exact .pure _ rfl
  · have f1 : ¬ ((cnt st cs S b : Nat) : Int) < ((cnt st cs S v : Nat) : Int) := by omega
    by_cases c2 : cnt st cs S v = cnt st cs S b
    · have f2 : ((cnt st cs S v : Nat) : Int) = ((cnt st cs S b : Nat) : Int) := by omega
      rw [f2] at f1
      simp (maxSteps := 4000000) only [↓packA0, ↓packA1, ↓packA2, ↓reduceIte, packB0, packB1, packB2, packB3, packB4, pureOp, quietOp, loadOp, quietB, fr0, cellsK, Option.getD_some, Option.getD_none, implies_true, ite_true, ite_false, eq_self, ne_eq, reduceCtorEq, Nat.reduceLT, Nat.reduceLeDiff, Nat.reduceAdd, Nat.reduceMul, Nat.reduceBEq, Nat.reduceEqDiff, Int.reduceToNat, Int.reduceLT, Int.reduceLE, Nat.reduceSub, pl94, tsize_3, tbytes_3, tagg_3, zcells_3, telem_3, tint_3, tnotIface_3, tsize_4, tbytes_4, tagg_4, zcells_4, telem_4, tbool_4, tnotIface_4, tsize_23, tbytes_23, tagg_23, zcells_23, telem_23, tnotIface_23, tsize_45, tbytes_45, tagg_45, zcells_45, telem_45, tnotIface_45, foff_45_0, foff_45_1, foff_45_2, foff_45_3, fplaces_45, tsize_52, tbytes_52, tagg_52, zcells_52, telem_52, tnotIface_52, ints, f1, f2]
      refine acalls_pure (rneigh_c n n st cs hb hb2 hm v (by omega) (by omega)) rfl ?_
      simp (maxSteps := 4000000) only [↓packA0, ↓packA1, ↓packA2, ↓reduceIte, packB0, packB1, packB2, packB3, packB4, pureOp, quietOp, loadOp, quietB, fr0, cellsK, Option.getD_some, Option.getD_none, implies_true, ite_true, ite_false, eq_self, ne_eq, reduceCtorEq, Nat.reduceLT, Nat.reduceLeDiff, Nat.reduceAdd, Nat.reduceMul, Nat.reduceBEq, Nat.reduceEqDiff, Int.reduceToNat, Int.reduceLT, Int.reduceLE, Nat.reduceSub, pl94, tsize_3, tbytes_3, tagg_3, zcells_3, telem_3, tint_3, tnotIface_3, tsize_4, tbytes_4, tagg_4, zcells_4, telem_4, tbool_4, tnotIface_4, tsize_23, tbytes_23, tagg_23, zcells_23, telem_23, tnotIface_23, tsize_45, tbytes_45, tagg_45, zcells_45, telem_45, tnotIface_45, foff_45_0, foff_45_1, foff_45_2, foff_45_3, fplaces_45, tsize_52, tbytes_52, tagg_52, zcells_52, telem_52, tnotIface_52, ints, f1, f2]
      refine acalls_pure (rneigh_c n n st cs hb hb2 hm b (by omega) (by omega)) rfl ?_
      simp (maxSteps := 4000000) only [↓packA0, ↓packA1, ↓packA2, ↓reduceIte, packB0, packB1, packB2, packB3, packB4, pureOp, quietOp, loadOp, quietB, fr0, cellsK, Option.getD_some, Option.getD_none, implies_true, ite_true, ite_false, eq_self, ne_eq, reduceCtorEq, Nat.reduceLT, Nat.reduceLeDiff, Nat.reduceAdd, Nat.reduceMul, Nat.reduceBEq, Nat.reduceEqDiff, Int.reduceToNat, Int.reduceLT, Int.reduceLE, Nat.reduceSub, pl94, tsize_3, tbytes_3, tagg_3, zcells_3, telem_3, tint_3, tnotIface_3, tsize_4, tbytes_4, tagg_4, zcells_4, telem_4, tbool_4, tnotIface_4, tsize_23, tbytes_23, tagg_23, zcells_23, telem_23, tnotIface_23, tsize_45, tbytes_45, tagg_45, zcells_45, telem_45, tnotIface_45, foff_45_0, foff_45_1, foff_45_2, foff_45_3, fplaces_45, tsize_52, tbytes_52, tagg_52, zcells_52, telem_52, tnotIface_52, ints, f1, f2]
      rw [show (decide (bts st cs S v b)) = decide (((rowOf st cs b).length : Int) < (rowOf st cs v).length) from decide_eq_decide.2 ⟨fun h => by unfold bts at h; omega, fun h => by unfold bts; omega⟩]
      exact .pure _ rfl
    · have f2 : ¬ ((cnt st cs S v : Nat) : Int) = ((cnt st cs S b : Nat) : Int) := by omega
      simp (maxSteps := 4000000) only [↓packA0, ↓packA1, ↓packA2, ↓reduceIte, packB0, packB1, packB2, packB3, packB4, pureOp, quietOp, loadOp, quietB, fr0, cellsK, Option.getD_some, Option.getD_none, implies_true, ite_true, ite_false, eq_self, ne_eq, reduceCtorEq, Nat.reduceLT, Nat.reduceLeDiff, Nat.reduceAdd, Nat.reduceMul, Nat.reduceBEq, Nat.reduceEqDiff, Int.reduceToNat, Int.reduceLT, Int.reduceLE, Nat.reduceSub, pl94, tsize_3, tbytes_3, tagg_3, zcells_3, telem_3, tint_3, tnotIface_3, tsize_4, tbytes_4, tagg_4, zcells_4, telem_4, tbool_4, tnotIface_4, tsize_23, tbytes_23, tagg_23, zcells_23, telem_23, tnotIface_23, tsize_45, tbytes_45, tagg_45, zcells_45, telem_45, tnotIface_45, foff_45_0, foff_45_1, foff_45_2, foff_45_3, fplaces_45, tsize_52, tbytes_52, tagg_52, zcells_52, telem_52, tnotIface_52, ints, f1, f2]
      rw [decide_eq_false (show ¬ bts st cs S v b by unfold bts; omega)]
      exact .pure _ rfl
def F01 : Nat → Prop := fun i => i = 0 ∨ i = 1
set_option maxRecDepth 100000 in
theorem rinc_c (n : Nat) (hn : n ≤ 128) (st cs : List Int) (hb : st.length < 1000000000) (hb2 : cs.length < 1000000000) (hm : mayP n n st cs) : ACalls Try.prog 71 [pat n n st cs] [] fun v h => OFz h v (ints (incL st cs n)) := by
  refine (wp71 rfl rfl ?_)
  simp (maxSteps := 4000000) only [↓packA0, ↓packA1, ↓packA2, ↓reduceIte, packB0, packB1, packB2, packB3, packB4, pureOp, quietOp, loadOp, quietB, fr0, cellsK, Option.getD_some, Option.getD_none, implies_true, ite_true, ite_false, eq_self, ne_eq, reduceCtorEq, Nat.reduceLT, Nat.reduceLeDiff, Nat.reduceAdd, Nat.reduceMul, Nat.reduceBEq, Nat.reduceEqDiff, Int.reduceToNat, Int.reduceLT, Int.reduceLE, Nat.reduceSub, pl71, tfun_1, telem_1, tsize_3, tbytes_3, tagg_3, zcells_3, telem_3, tint_3, tnotIface_3, tsize_4, tbytes_4, tagg_4, zcells_4, telem_4, tbool_4, tnotIface_4, tsize_23, tbytes_23, tagg_23, zcells_23, telem_23, tnotIface_23, tsize_45, tbytes_45, tagg_45, zcells_45, telem_45, tnotIface_45, foff_45_0, foff_45_1, foff_45_2, foff_45_3, fplaces_45, tsize_52, tbytes_52, tagg_52, zcells_52, telem_52, tnotIface_52, ints]
  refine ⟨by omega, ?_⟩
  refine LoopK.intro (fun m a g => ∃ (k : Nat) (x : AV), m = n - k ∧ k ≤ n ∧ BC F01 g x (ist st cs n k).L ∧ g[0]? = some (patO n n st cs) ∧ g[1]? = some (.arr 1 (List.map boolE (ist st cs n k).P) true) ∧ a 1 = .op 0 4 0 0 ∧ a 3 = .osl 1 1 0 n n true ∧ a 4 = x) n ⟨0, .nils, rfl, Nat.zero_le _, .inl ⟨rfl, rfl⟩, ?_⟩ ?_
  · simp (maxSteps := 4000000) only [↓packA0, ↓packA1, ↓packA2, ↓reduceIte, packB0, packB1, packB2, packB3, packB4, pureOp, quietOp, loadOp, quietB, fr0, cellsK, Option.getD_some, Option.getD_none, implies_true, ite_true, ite_false, eq_self, ne_eq, reduceCtorEq, Nat.reduceLT, Nat.reduceLeDiff, Nat.reduceAdd, Nat.reduceMul, Nat.reduceBEq, Nat.reduceEqDiff, Int.reduceToNat, Int.reduceLT, Int.reduceLE, Nat.reduceSub, pl71, tfun_1, telem_1, tsize_3, tbytes_3, tagg_3, zcells_3, telem_3, tint_3, tnotIface_3, tsize_4, tbytes_4, tagg_4, zcells_4, telem_4, tbool_4, tnotIface_4, tsize_23, tbytes_23, tagg_23, zcells_23, telem_23, tnotIface_23, tsize_45, tbytes_45, tagg_45, zcells_45, telem_45, tnotIface_45, foff_45_0, foff_45_1, foff_45_2, foff_45_3, fplaces_45, tsize_52, tbytes_52, tagg_52, zcells_52, telem_52, tnotIface_52, patO, ints, ist]
  rintro m a g ⟨k, x, rfl, hk, hb1, g0, g1, a1, a3, a4⟩
  unfold patO ints at g0
  have hI := ist_ok st cs n k hk
  have hll := hI.ll
  have hpl := hI.pl
  by_cases r : k < n
  · have r1 : ((ist st cs n k).L.length : Int) < (n : Int) := by omega
    simp (maxSteps := 4000000) only [↓packA0, ↓packA1, ↓packA2, ↓reduceIte, packB0, packB1, packB2, packB3, packB4, pureOp, quietOp, loadOp, quietB, fr0, cellsK, Option.getD_some, Option.getD_none, implies_true, ite_true, ite_false, eq_self, ne_eq, reduceCtorEq, Nat.reduceLT, Nat.reduceLeDiff, Nat.reduceAdd, Nat.reduceMul, Nat.reduceBEq, Nat.reduceEqDiff, Int.reduceToNat, Int.reduceLT, Int.reduceLE, Nat.reduceSub, pl71, tfun_1, telem_1, tsize_3, tbytes_3, tagg_3, zcells_3, telem_3, tint_3, tnotIface_3, tsize_4, tbytes_4, tagg_4, zcells_4, telem_4, tbool_4, tnotIface_4, tsize_23, tbytes_23, tagg_23, zcells_23, telem_23, tnotIface_23, tsize_45, tbytes_45, tagg_45, zcells_45, telem_45, tnotIface_45, foff_45_0, foff_45_1, foff_45_2, foff_45_3, fplaces_45, tsize_52, tbytes_52, tagg_52, zcells_52, telem_52, tnotIface_52, a1, a3, a4, r1, g0, lenK_bc hb1]
    refine LoopK.intro (fun m a g' => ∃ (v : Nat), m = n - v ∧ v ≤ n ∧ a 1 = .op 0 4 0 0 ∧ a 3 = .osl 1 1 0 n n true ∧ a 4 = x ∧ a 5 = .int .i64 (bI st cs (ist st cs n k).P v) ∧ a 6 = .int .i64 v ∧ g' = g) n ⟨0, rfl, Nat.zero_le _, ?_⟩ ?_
    · simp (maxSteps := 4000000) only [↓packA0, ↓packA1, ↓packA2, ↓reduceIte, packB0, packB1, packB2, packB3, packB4, pureOp, quietOp, loadOp, quietB, fr0, cellsK, Option.getD_some, Option.getD_none, implies_true, ite_true, ite_false, eq_self, ne_eq, reduceCtorEq, Nat.reduceLT, Nat.reduceLeDiff, Nat.reduceAdd, Nat.reduceMul, Nat.reduceBEq, Nat.reduceEqDiff, Int.reduceToNat, Int.reduceLT, Int.reduceLE, Nat.reduceSub, pl71, tfun_1, telem_1, tsize_3, tbytes_3, tagg_3, zcells_3, telem_3, tint_3, tnotIface_3, tsize_4, tbytes_4, tagg_4, zcells_4, telem_4, tbool_4, tnotIface_4, tsize_23, tbytes_23, tagg_23, zcells_23, telem_23, tnotIface_23, tsize_45, tbytes_45, tagg_45, zcells_45, telem_45, tnotIface_45, foff_45_0, foff_45_1, foff_45_2, foff_45_3, fplaces_45, tsize_52, tbytes_52, tagg_52, zcells_52, telem_52, tnotIface_52, a1, a3, a4, bI, Int.natCast_zero]
      trace_state
    clear a1 a3 a4
    rintro m a g' ⟨v, rfl, hv, a1, a3, a4, a5, a6, rfl⟩
    have hi := bI_in (st := st) (cs := cs) (P := (ist st cs n k).P) v
    by_cases r2 : v < n
    · have r3 : (v : Int) < (n : Int) := by omega
      have hd := fun c => show bI st cs (ist st cs n k).P (v + 1) = _ from if_neg c
      have he := fun c => show bI st cs (ist st cs n k).P (v + 1) = _ from if_pos c
      cases hP : (ist st cs n k).P.getD v false with
      | true =>
        have hP' : (ist st cs n k).P.getD v default = true := hP
        simp (maxSteps := 4000000) only [↓packA0, ↓packA1, ↓packA2, ↓reduceIte, packB0, packB1, packB2, packB3, packB4, pureOp, quietOp, loadOp, quietB, fr0, cellsK, Option.getD_some, Option.getD_none, implies_true, ite_true, ite_false, eq_self, ne_eq, reduceCtorEq, Nat.reduceLT, Nat.reduceLeDiff, Nat.reduceAdd, Nat.reduceMul, Nat.reduceBEq, Nat.reduceEqDiff, Int.reduceToNat, Int.reduceLT, Int.reduceLE, Nat.reduceSub, pl71, tfun_1, telem_1, tsize_3, tbytes_3, tagg_3, zcells_3, telem_3, tint_3, tnotIface_3, tsize_4, tbytes_4, tagg_4, zcells_4, telem_4, tbool_4, tnotIface_4, tsize_23, tbytes_23, tagg_23, zcells_23, telem_23, tnotIface_23, tsize_45, tbytes_45, tagg_45, zcells_45, telem_45, tnotIface_45, foff_45_0, foff_45_1, foff_45_2, foff_45_3, fplaces_45, tsize_52, tbytes_52, tagg_52, zcells_52, telem_52, tnotIface_52, a1, a3, a4, a5, a6, r3, g0, g1, hP']
        exact ⟨by omega, by omega, by omega, .inl ⟨n - (v + 1), by omega, v + 1, rfl, by omega, (hd (by rw [hP]; simp)).symm, by omega⟩⟩
      | false =>
        have hP' : (ist st cs n k).P.getD v default = false := hP
        by_cases r4 : bI st cs (ist st cs n k).P v < 0
        · simp (maxSteps := 4000000) only [↓packA0, ↓packA1, ↓packA2, ↓reduceIte, packB0, packB1, packB2, packB3, packB4, pureOp, quietOp, loadOp, quietB, fr0, cellsK, Option.getD_some, Option.getD_none, implies_true, ite_true, ite_false, eq_self, ne_eq, reduceCtorEq, Nat.reduceLT, Nat.reduceLeDiff, Nat.reduceAdd, Nat.reduceMul, Nat.reduceBEq, Nat.reduceEqDiff, Int.reduceToNat, Int.reduceLT, Int.reduceLE, Nat.reduceSub, pl71, tfun_1, telem_1, tsize_3, tbytes_3, tagg_3, zcells_3, telem_3, tint_3, tnotIface_3, tsize_4, tbytes_4, tagg_4, zcells_4, telem_4, tbool_4, tnotIface_4, tsize_23, tbytes_23, tagg_23, zcells_23, telem_23, tnotIface_23, tsize_45, tbytes_45, tagg_45, zcells_45, telem_45, tnotIface_45, foff_45_0, foff_45_1, foff_45_2, foff_45_3, fplaces_45, tsize_52, tbytes_52, tagg_52, zcells_52, telem_52, tnotIface_52, a1, a3, a4, a5, a6, r3, g0, g1, hP', r4]
          exact ⟨by omega, by omega, by omega, .inl ⟨n - (v + 1), by omega, v + 1, rfl, by omega, (he ⟨hP, .inl r4⟩).symm, by omega⟩⟩
        · have hgf : (decide (bts st cs (ist st cs n k).P v (bI st cs (ist st cs n k).P v).toNat) : Bool) = decide (bts st cs (ist st cs n k).P v (bI st cs (ist st cs n k).P v).toNat) := rfl
          obtain ⟨b, hb4⟩ : ∃ b : Nat, bI st cs (ist st cs n k).P v = (b : Int) := ⟨(bI st cs (ist st cs n k).P v).toNat, by omega⟩
          rw [hb4] at hd he r4 a5 hi
          rw [Int.toNat_natCast] at hd he
          have haa := ahead_c n st cs (ist st cs n k).P hb hb2 hm hn v b (by omega) (by omega) hpl
          cases hB : decide (bts st cs (ist st cs n k).P v b) with
          | true =>
            rw [hB] at haa
            have hB' := of_decide_eq_true hB
            simp (maxSteps := 4000000) only [↓packA0, ↓packA1, ↓packA2, ↓reduceIte, packB0, packB1, packB2, packB3, packB4, pureOp, quietOp, loadOp, quietB, fr0, cellsK, Option.getD_some, Option.getD_none, implies_true, ite_true, ite_false, eq_self, ne_eq, reduceCtorEq, Nat.reduceLT, Nat.reduceLeDiff, Nat.reduceAdd, Nat.reduceMul, Nat.reduceBEq, Nat.reduceEqDiff, Int.reduceToNat, Int.reduceLT, Int.reduceLE, Nat.reduceSub, pl71, tfun_1, telem_1, tsize_3, tbytes_3, tagg_3, zcells_3, telem_3, tint_3, tnotIface_3, tsize_4, tbytes_4, tagg_4, zcells_4, telem_4, tbool_4, tnotIface_4, tsize_23, tbytes_23, tagg_23, zcells_23, telem_23, tnotIface_23, tsize_45, tbytes_45, tagg_45, zcells_45, telem_45, tnotIface_45, foff_45_0, foff_45_1, foff_45_2, foff_45_3, fplaces_45, tsize_52, tbytes_52, tagg_52, zcells_52, telem_52, tnotIface_52, a1, a3, a4, a5, a6, r3, g0, g1, hP', r4]
            refine ⟨by omega, by omega, acalls_lend haa (.cons (.pure _ rfl) (.cons (.pure _ rfl) (.cons (.pure _ rfl) (.cons (frz_bools g1 hpl) .nil)))) rfl ?_⟩
            simp (maxSteps := 4000000) only [↓packA0, ↓packA1, ↓packA2, ↓reduceIte, packB0, packB1, packB2, packB3, packB4, pureOp, quietOp, loadOp, quietB, fr0, cellsK, Option.getD_some, Option.getD_none, implies_true, ite_true, ite_false, eq_self, ne_eq, reduceCtorEq, Nat.reduceLT, Nat.reduceLeDiff, Nat.reduceAdd, Nat.reduceMul, Nat.reduceBEq, Nat.reduceEqDiff, Int.reduceToNat, Int.reduceLT, Int.reduceLE, Nat.reduceSub, pl71, tfun_1, telem_1, tsize_3, tbytes_3, tagg_3, zcells_3, telem_3, tint_3, tnotIface_3, tsize_4, tbytes_4, tagg_4, zcells_4, telem_4, tbool_4, tnotIface_4, tsize_23, tbytes_23, tagg_23, zcells_23, telem_23, tnotIface_23, tsize_45, tbytes_45, tagg_45, zcells_45, telem_45, tnotIface_45, foff_45_0, foff_45_1, foff_45_2, foff_45_3, fplaces_45, tsize_52, tbytes_52, tagg_52, zcells_52, telem_52, tnotIface_52, a1, a3, a4, a5, a6, r3, g0, g1, hP', r4]
            exact ⟨by omega, .inl ⟨n - (v + 1), by omega, v + 1, rfl, by omega, (he ⟨hP, .inr hB'⟩).symm, by omega⟩⟩
          | false =>
            rw [hB] at haa
            have hB' := of_decide_eq_false hB
            simp (maxSteps := 4000000) only [↓packA0, ↓packA1, ↓packA2, ↓reduceIte, packB0, packB1, packB2, packB3, packB4, pureOp, quietOp, loadOp, quietB, fr0, cellsK, Option.getD_some, Option.getD_none, implies_true, ite_true, ite_false, eq_self, ne_eq, reduceCtorEq, Nat.reduceLT, Nat.reduceLeDiff, Nat.reduceAdd, Nat.reduceMul, Nat.reduceBEq, Nat.reduceEqDiff, Int.reduceToNat, Int.reduceLT, Int.reduceLE, Nat.reduceSub, pl71, tfun_1, telem_1, tsize_3, tbytes_3, tagg_3, zcells_3, telem_3, tint_3, tnotIface_3, tsize_4, tbytes_4, tagg_4, zcells_4, telem_4, tbool_4, tnotIface_4, tsize_23, tbytes_23, tagg_23, zcells_23, telem_23, tnotIface_23, tsize_45, tbytes_45, tagg_45, zcells_45, telem_45, tnotIface_45, foff_45_0, foff_45_1, foff_45_2, foff_45_3, fplaces_45, tsize_52, tbytes_52, tagg_52, zcells_52, telem_52, tnotIface_52, a1, a3, a4, a5, a6, r3, g0, g1, hP', r4]
            refine ⟨by omega, by omega, acalls_lend haa (.cons (.pure _ rfl) (.cons (.pure _ rfl) (.cons (.pure _ rfl) (.cons (frz_bools g1 hpl) .nil)))) rfl ?_⟩
            simp (maxSteps := 4000000) only [↓packA0, ↓packA1, ↓packA2, ↓reduceIte, packB0, packB1, packB2, packB3, packB4, pureOp, quietOp, loadOp, quietB, fr0, cellsK, Option.getD_some, Option.getD_none, implies_true, ite_true, ite_false, eq_self, ne_eq, reduceCtorEq, Nat.reduceLT, Nat.reduceLeDiff, Nat.reduceAdd, Nat.reduceMul, Nat.reduceBEq, Nat.reduceEqDiff, Int.reduceToNat, Int.reduceLT, Int.reduceLE, Nat.reduceSub, pl71, tfun_1, telem_1, tsize_3, tbytes_3, tagg_3, zcells_3, telem_3, tint_3, tnotIface_3, tsize_4, tbytes_4, tagg_4, zcells_4, telem_4, tbool_4, tnotIface_4, tsize_23, tbytes_23, tagg_23, zcells_23, telem_23, tnotIface_23, tsize_45, tbytes_45, tagg_45, zcells_45, telem_45, tnotIface_45, foff_45_0, foff_45_1, foff_45_2, foff_45_3, fplaces_45, tsize_52, tbytes_52, tagg_52, zcells_52, telem_52, tnotIface_52, a1, a3, a4, a5, a6, r3, g0, g1, hP', r4]
            exact ⟨by omega, .inl ⟨n - (v + 1), by omega, v + 1, rfl, by omega, (hd (fun hc => hc.2.elim r4 hB')).symm, by omega⟩⟩
    · have r3 : ¬ (v : Int) < (n : Int) := by omega
      obtain rfl : v = n := by omega
      have hbb := ist_best hI r
      obtain ⟨b, hb4⟩ : ∃ b : Nat, bI st cs (ist st cs v k).P v = (b : Int) := ⟨(bI st cs (ist st cs v k).P v).toNat, by omega⟩
      have hsP : (ist st cs v (k + 1)).P = (ist st cs v k).P.set b true := by show List.set _ _ _ = _; rw [hb4, Int.toNat_natCast]
      have hsL : (ist st cs v (k + 1)).L = (ist st cs v k).L ++ [(b : Int)] := by show _ ++ [_] = _; rw [hb4]
      rw [hb4] at a5 hi
      obtain ⟨M, hM⟩ : ∃ M, g'.length = M := ⟨_, rfl⟩
      have rM : ∀ o, ((g'.set 1 (.arr 1 (List.map boolE ((ist st cs v k).P.set b true)) true)) ++ [o])[M]? = some o := fun o => by rw [List.getElem?_append_right (by simp [hM])]; simp [hM]
      simp (maxSteps := 4000000) only [↓packA0, ↓packA1, ↓packA2, ↓reduceIte, packB0, packB1, packB2, packB3, packB4, pureOp, quietOp, loadOp, quietB, fr0, cellsK, Option.getD_some, Option.getD_none, implies_true, ite_true, ite_false, eq_self, ne_eq, reduceCtorEq, Nat.reduceLT, Nat.reduceLeDiff, Nat.reduceAdd, Nat.reduceMul, Nat.reduceBEq, Nat.reduceEqDiff, Int.reduceToNat, Int.reduceLT, Int.reduceLE, Nat.reduceSub, pl71, tfun_1, telem_1, tsize_3, tbytes_3, tagg_3, zcells_3, telem_3, tint_3, tnotIface_3, tsize_4, tbytes_4, tagg_4, zcells_4, telem_4, tbool_4, tnotIface_4, tsize_23, tbytes_23, tagg_23, zcells_23, telem_23, tnotIface_23, tsize_45, tbytes_45, tagg_45, zcells_45, telem_45, tnotIface_45, foff_45_0, foff_45_1, foff_45_2, foff_45_3, fplaces_45, tsize_52, tbytes_52, tagg_52, zcells_52, telem_52, tnotIface_52, a1, a3, a4, a5, a6, r3, g0, g1, hM, rM]
      have l1 : 1 < g'.length := (List.getElem?_eq_some_iff.1 g1).1
      refine ⟨by omega, by omega, push_bc (F := F01) (fun i hi => by simp [hM]; rcases hi with rfl | rfl <;> omega) ((hb1.keep (F' := F01) (fun id e h1 h2 => ⟨h2, by rw [List.getElem?_set_ne (fun e => h2 (.inr e.symm))]⟩)).app) (by omega) fun x' G hcx hl' hf' hb' => ?_⟩
      obtain ⟨xi, xl, xc, xe, rfl⟩ := hcx
      simp (maxSteps := 4000000) only [↓packA0, ↓packA1, ↓packA2, ↓reduceIte, packB0, packB1, packB2, packB3, packB4, pureOp, quietOp, loadOp, quietB, fr0, cellsK, Option.getD_some, Option.getD_none, implies_true, ite_true, ite_false, eq_self, ne_eq, reduceCtorEq, Nat.reduceLT, Nat.reduceLeDiff, Nat.reduceAdd, Nat.reduceMul, Nat.reduceBEq, Nat.reduceEqDiff, Int.reduceToNat, Int.reduceLT, Int.reduceLE, Nat.reduceSub, pl71, tfun_1, telem_1, tsize_3, tbytes_3, tagg_3, zcells_3, telem_3, tint_3, tnotIface_3, tsize_4, tbytes_4, tagg_4, zcells_4, telem_4, tbool_4, tnotIface_4, tsize_23, tbytes_23, tagg_23, zcells_23, telem_23, tnotIface_23, tsize_45, tbytes_45, tagg_45, zcells_45, telem_45, tnotIface_45, foff_45_0, foff_45_1, foff_45_2, foff_45_3, fplaces_45, tsize_52, tbytes_52, tagg_52, zcells_52, telem_52, tnotIface_52, a1, a3, a4, a5, a6, g0, g1]
      refine .inl ⟨v - (k + 1), by omega, k + 1, .osl xi 1 0 xl xc xe, rfl, by omega, by rw [hsL]; exact hb', ?_, ?_, rfl⟩
      · rw [hf' 0 (.inl rfl), List.getElem?_append_left (by simp; omega), List.getElem?_set_ne (by omega), g0]; rfl
      · rw [hf' 1 (.inr rfl), List.getElem?_append_left (by simp; omega), List.getElem?_set_self l1, hsP]
  · have r1 : ¬ ((ist st cs n k).L.length : Int) < (n : Int) := by omega
    simp (maxSteps := 4000000) only [↓packA0, ↓packA1, ↓packA2, ↓reduceIte, packB0, packB1, packB2, packB3, packB4, pureOp, quietOp, loadOp, quietB, fr0, cellsK, Option.getD_some, Option.getD_none, implies_true, ite_true, ite_false, eq_self, ne_eq, reduceCtorEq, Nat.reduceLT, Nat.reduceLeDiff, Nat.reduceAdd, Nat.reduceMul, Nat.reduceBEq, Nat.reduceEqDiff, Int.reduceToNat, Int.reduceLT, Int.reduceLE, Nat.reduceSub, pl71, tfun_1, telem_1, tsize_3, tbytes_3, tagg_3, zcells_3, telem_3, tint_3, tnotIface_3, tsize_4, tbytes_4, tagg_4, zcells_4, telem_4, tbool_4, tnotIface_4, tsize_23, tbytes_23, tagg_23, zcells_23, telem_23, tnotIface_23, tsize_45, tbytes_45, tagg_45, zcells_45, telem_45, tnotIface_45, foff_45_0, foff_45_1, foff_45_2, foff_45_3, fplaces_45, tsize_52, tbytes_52, tagg_52, zcells_52, telem_52, tnotIface_52, a1, a3, a4, r1, g0, lenK_bc hb1]
    obtain rfl : k = n := by omega
    exact bc_ofz hb1
end Go.Proofs.Ytgdlkhgfehclpaa
end

section
/- The order of incidence, the program's. No condition. -/
namespace Go.Proofs.Ytgdlkhgfehclpaa
open Go Go.AL
set_option linter.unusedVariables false
set_option linter.unusedSimpArgs false
def orI (a b : Int) : Int := if a = 0 then b else a
set_option maxRecDepth 100000 in
theorem or_c (a b : Int) : APure Try.prog 104 [ints [a, b]] (.int .i64 (orI a b)) := by
  refine apure_of (wp104 rfl rfl ?_)
  by_cases c : a = 0
  · have e : orI a b = b := if_pos c
    rw [e]
    by_cases c2 : b = 0
    · subst c c2
      simp (maxSteps := 4000000) only [↓packA0, ↓packA1, ↓packA2, ↓reduceIte, packB0, packB1, packB2, packB3, packB4, pureOp, quietOp, loadOp, quietB, fr0, cellsK, Option.getD_some, Option.getD_none, implies_true, ite_true, ite_false, eq_self, ne_eq, reduceCtorEq, Nat.reduceLT, Nat.reduceLeDiff, Nat.reduceAdd, Nat.reduceMul, Nat.reduceBEq, Nat.reduceEqDiff, Int.reduceToNat, Int.reduceLT, Int.reduceLE, Nat.reduceSub, pl104, tsize_3, tbytes_3, tagg_3, zcells_3, telem_3, tint_3, tnotIface_3, tsize_23, tbytes_23, tagg_23, zcells_23, telem_23, tnotIface_23, ints, intE, List.map_cons, List.map_nil, Int.cast_ofNat_Int, Int.natCast_zero, Int.natCast_one, Int.reduceAdd, Int.reduceSub, Int.reduceNeg, Int.reduceMul, Int.reduceToNat, Int.reduceLT, Int.reduceLE, Int.reduceEq, Int.reduceBEq, Int.reduceBNe, Nat.reduceSub, Nat.reduceLT, List.getD_cons_zero, List.getD_cons_succ, List.length_singleton, Bool.and_true, Bool.and_false]
      refine LoopN.loop 3 ?_
      simp (maxSteps := 4000000) only [↓packA0, ↓packA1, ↓packA2, ↓reduceIte, packB0, packB1, packB2, packB3, packB4, pureOp, quietOp, loadOp, quietB, fr0, cellsK, Option.getD_some, Option.getD_none, implies_true, ite_true, ite_false, eq_self, ne_eq, reduceCtorEq, Nat.reduceLT, Nat.reduceLeDiff, Nat.reduceAdd, Nat.reduceMul, Nat.reduceBEq, Nat.reduceEqDiff, Int.reduceToNat, Int.reduceLT, Int.reduceLE, Nat.reduceSub, pl104, tsize_3, tbytes_3, tagg_3, zcells_3, telem_3, tint_3, tnotIface_3, tsize_23, tbytes_23, tagg_23, zcells_23, telem_23, tnotIface_23, ↓LoopN_succ, Int.cast_ofNat_Int, Int.natCast_zero, Int.natCast_one, Int.reduceAdd, Int.reduceSub, Int.reduceNeg, Int.reduceMul, Int.reduceToNat, Int.reduceLT, Int.reduceLE, Int.reduceEq, Int.reduceBEq, Int.reduceBNe, Nat.reduceSub, Nat.reduceLT, List.getD_cons_zero, List.getD_cons_succ, List.length_singleton, Bool.and_true, Bool.and_false]
      exact .pure _ rfl
    · subst c
      simp (maxSteps := 4000000) only [↓packA0, ↓packA1, ↓packA2, ↓reduceIte, packB0, packB1, packB2, packB3, packB4, pureOp, quietOp, loadOp, quietB, fr0, cellsK, Option.getD_some, Option.getD_none, implies_true, ite_true, ite_false, eq_self, ne_eq, reduceCtorEq, Nat.reduceLT, Nat.reduceLeDiff, Nat.reduceAdd, Nat.reduceMul, Nat.reduceBEq, Nat.reduceEqDiff, Int.reduceToNat, Int.reduceLT, Int.reduceLE, Nat.reduceSub, pl104, tsize_3, tbytes_3, tagg_3, zcells_3, telem_3, tint_3, tnotIface_3, tsize_23, tbytes_23, tagg_23, zcells_23, telem_23, tnotIface_23, ints, intE, List.map_cons, List.map_nil, c2, Int.cast_ofNat_Int, Int.natCast_zero, Int.natCast_one, Int.reduceAdd, Int.reduceSub, Int.reduceNeg, Int.reduceMul, Int.reduceToNat, Int.reduceLT, Int.reduceLE, Int.reduceEq, Int.reduceBEq, Int.reduceBNe, Nat.reduceSub, Nat.reduceLT, List.getD_cons_zero, List.getD_cons_succ, List.length_singleton, Bool.and_true, Bool.and_false]
      refine LoopN.loop 3 ?_
      simp (maxSteps := 4000000) only [↓packA0, ↓packA1, ↓packA2, ↓reduceIte, packB0, packB1, packB2, packB3, packB4, pureOp, quietOp, loadOp, quietB, fr0, cellsK, Option.getD_some, Option.getD_none, implies_true, ite_true, ite_false, eq_self, ne_eq, reduceCtorEq, Nat.reduceLT, Nat.reduceLeDiff, Nat.reduceAdd, Nat.reduceMul, Nat.reduceBEq, Nat.reduceEqDiff, Int.reduceToNat, Int.reduceLT, Int.reduceLE, Nat.reduceSub, pl104, tsize_3, tbytes_3, tagg_3, zcells_3, telem_3, tint_3, tnotIface_3, tsize_23, tbytes_23, tagg_23, zcells_23, telem_23, tnotIface_23, ↓LoopN_succ, c2, Int.cast_ofNat_Int, Int.natCast_zero, Int.natCast_one, Int.reduceAdd, Int.reduceSub, Int.reduceNeg, Int.reduceMul, Int.reduceToNat, Int.reduceLT, Int.reduceLE, Int.reduceEq, Int.reduceBEq, Int.reduceBNe, Nat.reduceSub, Nat.reduceLT, List.getD_cons_zero, List.getD_cons_succ, List.length_singleton, Bool.and_true, Bool.and_false]
      exact .pure _ rfl
  · have e : orI a b = a := if_neg c
    rw [e]
    simp (maxSteps := 4000000) only [↓packA0, ↓packA1, ↓packA2, ↓reduceIte, packB0, packB1, packB2, packB3, packB4, pureOp, quietOp, loadOp, quietB, fr0, cellsK, Option.getD_some, Option.getD_none, implies_true, ite_true, ite_false, eq_self, ne_eq, reduceCtorEq, Nat.reduceLT, Nat.reduceLeDiff, Nat.reduceAdd, Nat.reduceMul, Nat.reduceBEq, Nat.reduceEqDiff, Int.reduceToNat, Int.reduceLT, Int.reduceLE, Nat.reduceSub, pl104, tsize_3, tbytes_3, tagg_3, zcells_3, telem_3, tint_3, tnotIface_3, tsize_23, tbytes_23, tagg_23, zcells_23, telem_23, tnotIface_23, ints, intE, List.map_cons, List.map_nil, c, Int.cast_ofNat_Int, Int.natCast_zero, Int.natCast_one, Int.reduceAdd, Int.reduceSub, Int.reduceNeg, Int.reduceMul, Int.reduceToNat, Int.reduceLT, Int.reduceLE, Int.reduceEq, Int.reduceBEq, Int.reduceBNe, Nat.reduceSub, Nat.reduceLT, List.getD_cons_zero, List.getD_cons_succ, List.length_singleton, Bool.and_true, Bool.and_false]
    refine LoopN.loop 3 ?_
    simp (maxSteps := 4000000) only [↓packA0, ↓packA1, ↓packA2, ↓reduceIte, packB0, packB1, packB2, packB3, packB4, pureOp, quietOp, loadOp, quietB, fr0, cellsK, Option.getD_some, Option.getD_none, implies_true, ite_true, ite_false, eq_self, ne_eq, reduceCtorEq, Nat.reduceLT, Nat.reduceLeDiff, Nat.reduceAdd, Nat.reduceMul, Nat.reduceBEq, Nat.reduceEqDiff, Int.reduceToNat, Int.reduceLT, Int.reduceLE, Nat.reduceSub, pl104, tsize_3, tbytes_3, tagg_3, zcells_3, telem_3, tint_3, tnotIface_3, tsize_23, tbytes_23, tagg_23, zcells_23, telem_23, tnotIface_23, ↓LoopN_succ, c, Int.cast_ofNat_Int, Int.natCast_zero, Int.natCast_one, Int.reduceAdd, Int.reduceSub, Int.reduceNeg, Int.reduceMul, Int.reduceToNat, Int.reduceLT, Int.reduceLE, Int.reduceEq, Int.reduceBEq, Int.reduceBNe, Nat.reduceSub, Nat.reduceLT, List.getD_cons_zero, List.getD_cons_succ, List.length_singleton, Bool.and_true, Bool.and_false]
    exact .pure _ rfl
theorem orI_bts {st cs : List Int} {P : List Bool} {v b : Nat} : 0 < orI (cmpI (cnt st cs P v) (cnt st cs P b)) (cmpI (rowOf st cs v).length (rowOf st cs b).length) ↔ bts st cs P v b := by
  unfold orI cmpI bts
  split <;> split <;> (try split) <;> (try split) <;> omega
theorem cnt_put {st cs : List Int} {n : Nat} (hg : graphP n n st cs) {S : List Bool} {u v : Nat} (hv : v < n) (hu : u < n) (hs : S.getD v false = false) (hl : v < S.length) : cnt st cs (S.set v true) u = cnt st cs S u + (if (u : Int) ∈ rowOf st cs v then 1 else 0) := by
  have h1 := cnt_drop (S := S.set v true) hg hv hu (by rw [getB_setT hl, if_pos rfl]) (by simpa using hl)
  rw [List.set_set] at h1
  rw [← h1]
  congr 1
  have : S.set v false = S := by
    refine boolL_ext (by simp) fun j hj => ?_
    rw [getB_set hl]
    split
    · rename_i e; subst e; exact hs.symm
    · rfl
  rw [this]
end Go.Proofs.Ytgdlkhgfehclpaa
end

section
/- The order of incidence, the program's, walked. No condition. -/
namespace Go.Proofs.Ytgdlkhgfehclpaa
open Go Go.AL
set_option linter.unusedVariables false
set_option linter.unusedSimpArgs false
def F012 : Nat → Prop := fun i => i = 0 ∨ i = 1 ∨ i = 2
set_option maxHeartbeats 4000000 in
set_option maxRecDepth 100000 in
theorem inc_c (n : Nat) (hn : n ≤ 128) (st cs : List Int) (hb : st.length < 1000000000) (hb2 : cs.length < 1000000000) (hg : graphP n n st cs) (xs : AV) : ACalls Try.prog 85 [pat n n st cs, xs] [] fun v h => OFz h v (.tup [ints (incL st cs n), .int .i64 0]) := by
  have hm := hg.1.1
  refine (wp85 rfl rfl ?_)
  simp (maxSteps := 4000000) only [↓packA0, ↓packA1, ↓packA2, ↓reduceIte, packB0, packB1, packB2, packB3, packB4, pureOp, quietOp, loadOp, quietB, fr0, cellsK, Option.getD_some, Option.getD_none, implies_true, ite_true, ite_false, eq_self, ne_eq, reduceCtorEq, Nat.reduceLT, Nat.reduceLeDiff, Nat.reduceAdd, Nat.reduceMul, Nat.reduceBEq, Nat.reduceEqDiff, Int.reduceToNat, Int.reduceLT, Int.reduceLE, Nat.reduceSub, pl85, tfun_1, telem_1, tsize_2, tbytes_2, tagg_2, zcells_2, telem_2, tint_2, tnotIface_2, tsize_3, tbytes_3, tagg_3, zcells_3, telem_3, tint_3, tnotIface_3, tsize_4, tbytes_4, tagg_4, zcells_4, telem_4, tbool_4, tnotIface_4, tsize_23, tbytes_23, tagg_23, zcells_23, telem_23, tnotIface_23, tsize_45, tbytes_45, tagg_45, zcells_45, telem_45, tnotIface_45, foff_45_0, foff_45_1, foff_45_2, foff_45_3, fplaces_45, tsize_52, tbytes_52, tagg_52, zcells_52, telem_52, tnotIface_52, ints]
  refine ⟨by omega, by omega, ?_⟩
  refine LoopK.intro (fun m a g => ∃ (k : Nat) (x : AV) (A : List Int), m = n - k ∧ k ≤ n ∧ BC F012 g x (ist st cs n k).L ∧ A.length = n ∧ (∀ u : Nat, u < n → A.getD u default = cnt st cs (ist st cs n k).P u) ∧ g[0]? = some (patO n n st cs) ∧ g[1]? = some (.arr 1 (List.map boolE (ist st cs n k).P) true) ∧ g[2]? = some (.arr 1 (List.map intE A) true) ∧ a 2 = .op 0 4 0 0 ∧ a 6 = .osl 1 1 0 n n true ∧ a 7 = .osl 2 1 0 n n true ∧ a 8 = x ∧ a 20 = .int .i64 n ∧ a 21 = .int .i64 k) n ⟨0, .nils, List.replicate n 0, rfl, Nat.zero_le _, .inl ⟨rfl, rfl⟩, by simp, fun u hu => ?_, ?_⟩ ?_
  · rw [show cnt st cs (ist st cs n 0).P u = 0 from ?_]
    · simp [List.getD_eq_getElem?_getD, List.getElem?_replicate, hu]
    · unfold cnt
      rw [List.filter_eq_nil_iff.2 fun w hw => by
        simp only [ist, List.getD_eq_getElem?_getD, List.getElem?_replicate]
        split <;> simp]
      rfl
  · simp (maxSteps := 4000000) only [↓packA0, ↓packA1, ↓packA2, ↓reduceIte, packB0, packB1, packB2, packB3, packB4, pureOp, quietOp, loadOp, quietB, fr0, cellsK, Option.getD_some, Option.getD_none, implies_true, ite_true, ite_false, eq_self, ne_eq, reduceCtorEq, Nat.reduceLT, Nat.reduceLeDiff, Nat.reduceAdd, Nat.reduceMul, Nat.reduceBEq, Nat.reduceEqDiff, Int.reduceToNat, Int.reduceLT, Int.reduceLE, Nat.reduceSub, pl85, tfun_1, telem_1, tsize_2, tbytes_2, tagg_2, zcells_2, telem_2, tint_2, tnotIface_2, tsize_3, tbytes_3, tagg_3, zcells_3, telem_3, tint_3, tnotIface_3, tsize_4, tbytes_4, tagg_4, zcells_4, telem_4, tbool_4, tnotIface_4, tsize_23, tbytes_23, tagg_23, zcells_23, telem_23, tnotIface_23, tsize_45, tbytes_45, tagg_45, zcells_45, telem_45, tnotIface_45, foff_45_0, foff_45_1, foff_45_2, foff_45_3, fplaces_45, tsize_52, tbytes_52, tagg_52, zcells_52, telem_52, tnotIface_52, patO, ints, ist, Int.natCast_zero]
    trace_state
  rintro m a g ⟨k, x, A, rfl, hk, hb1, hA, hAc, g0, g1, g2, a2, a6, a7, a8, a20, a21⟩
  unfold patO ints at g0
  have hI := ist_ok st cs n k hk
  have hll := hI.ll
  have hpl := hI.pl
  by_cases r : k < n
  · have r1 : (k : Int) < (n : Int) := by omega
    simp (maxSteps := 4000000) only [↓packA0, ↓packA1, ↓packA2, ↓reduceIte, packB0, packB1, packB2, packB3, packB4, pureOp, quietOp, loadOp, quietB, fr0, cellsK, Option.getD_some, Option.getD_none, implies_true, ite_true, ite_false, eq_self, ne_eq, reduceCtorEq, Nat.reduceLT, Nat.reduceLeDiff, Nat.reduceAdd, Nat.reduceMul, Nat.reduceBEq, Nat.reduceEqDiff, Int.reduceToNat, Int.reduceLT, Int.reduceLE, Nat.reduceSub, pl85, tfun_1, telem_1, tsize_2, tbytes_2, tagg_2, zcells_2, telem_2, tint_2, tnotIface_2, tsize_3, tbytes_3, tagg_3, zcells_3, telem_3, tint_3, tnotIface_3, tsize_4, tbytes_4, tagg_4, zcells_4, telem_4, tbool_4, tnotIface_4, tsize_23, tbytes_23, tagg_23, zcells_23, telem_23, tnotIface_23, tsize_45, tbytes_45, tagg_45, zcells_45, telem_45, tnotIface_45, foff_45_0, foff_45_1, foff_45_2, foff_45_3, fplaces_45, tsize_52, tbytes_52, tagg_52, zcells_52, telem_52, tnotIface_52, a2, a6, a7, a8, a20, a21, r1, g0]
    refine LoopK.intro (fun m a g' => ∃ (v : Nat) (t : Heap), m = n - v ∧ v ≤ n ∧ g' = g ++ t ∧ a 2 = .op 0 4 0 0 ∧ a 6 = .osl 1 1 0 n n true ∧ a 7 = .osl 2 1 0 n n true ∧ a 8 = x ∧ a 20 = .int .i64 n ∧ a 21 = .int .i64 k ∧ a 9 = .int .i64 (bI st cs (ist st cs n k).P v) ∧ a 24 = .int .i64 n ∧ a 25 = .int .i64 v) n ⟨0, [], rfl, Nat.zero_le _, by simp, ?_⟩ ?_
    · simp (maxSteps := 4000000) only [↓packA0, ↓packA1, ↓packA2, ↓reduceIte, packB0, packB1, packB2, packB3, packB4, pureOp, quietOp, loadOp, quietB, fr0, cellsK, Option.getD_some, Option.getD_none, implies_true, ite_true, ite_false, eq_self, ne_eq, reduceCtorEq, Nat.reduceLT, Nat.reduceLeDiff, Nat.reduceAdd, Nat.reduceMul, Nat.reduceBEq, Nat.reduceEqDiff, Int.reduceToNat, Int.reduceLT, Int.reduceLE, Nat.reduceSub, pl85, tfun_1, telem_1, tsize_2, tbytes_2, tagg_2, zcells_2, telem_2, tint_2, tnotIface_2, tsize_3, tbytes_3, tagg_3, zcells_3, telem_3, tint_3, tnotIface_3, tsize_4, tbytes_4, tagg_4, zcells_4, telem_4, tbool_4, tnotIface_4, tsize_23, tbytes_23, tagg_23, zcells_23, telem_23, tnotIface_23, tsize_45, tbytes_45, tagg_45, zcells_45, telem_45, tnotIface_45, foff_45_0, foff_45_1, foff_45_2, foff_45_3, fplaces_45, tsize_52, tbytes_52, tagg_52, zcells_52, telem_52, tnotIface_52, a2, a6, a7, a8, a20, a21, bI, Int.natCast_zero]
    clear a2 a6 a7 a8 a20 a21
    rintro m a g' ⟨v, t, rfl, hv, rfl, a2, a6, a7, a8, a20, a21, a9, a24, a25⟩
    have hi := bI_in (st := st) (cs := cs) (P := (ist st cs n k).P) v
    have l2 : 2 < g.length := (List.getElem?_eq_some_iff.1 g2).1
    have ra : ∀ i, i < g.length → (g ++ t)[i]? = g[i]? := fun i hi => List.getElem?_append_left hi
    have e0 := (ra 0 (by omega)).trans g0
    have e1 := (ra 1 (by omega)).trans g1
    have e2 := (ra 2 (by omega)).trans g2
    by_cases r2 : v < n
    · have r3 : (v : Int) < (n : Int) := by omega
      have hd := fun c => show bI st cs (ist st cs n k).P (v + 1) = _ from if_neg c
      have he := fun c => show bI st cs (ist st cs n k).P (v + 1) = _ from if_pos c
      cases hP : (ist st cs n k).P.getD v false with
      | true =>
        have hP' : (ist st cs n k).P.getD v default = true := hP
        simp (maxSteps := 4000000) only [↓packA0, ↓packA1, ↓packA2, ↓reduceIte, packB0, packB1, packB2, packB3, packB4, pureOp, quietOp, loadOp, quietB, fr0, cellsK, Option.getD_some, Option.getD_none, implies_true, ite_true, ite_false, eq_self, ne_eq, reduceCtorEq, Nat.reduceLT, Nat.reduceLeDiff, Nat.reduceAdd, Nat.reduceMul, Nat.reduceBEq, Nat.reduceEqDiff, Int.reduceToNat, Int.reduceLT, Int.reduceLE, Nat.reduceSub, pl85, tfun_1, telem_1, tsize_2, tbytes_2, tagg_2, zcells_2, telem_2, tint_2, tnotIface_2, tsize_3, tbytes_3, tagg_3, zcells_3, telem_3, tint_3, tnotIface_3, tsize_4, tbytes_4, tagg_4, zcells_4, telem_4, tbool_4, tnotIface_4, tsize_23, tbytes_23, tagg_23, zcells_23, telem_23, tnotIface_23, tsize_45, tbytes_45, tagg_45, zcells_45, telem_45, tnotIface_45, foff_45_0, foff_45_1, foff_45_2, foff_45_3, fplaces_45, tsize_52, tbytes_52, tagg_52, zcells_52, telem_52, tnotIface_52, a2, a6, a7, a8, a9, a20, a21, a24, a25, r3, e0, e1, e2, hP']
        exact ⟨by omega, by omega, by omega, .inl ⟨n - (v + 1), by omega, v + 1, t, rfl, by omega, rfl, (hd (by rw [hP]; simp)).symm, by omega⟩⟩
      | false =>
        have hP' : (ist st cs n k).P.getD v default = false := hP
        by_cases r4 : bI st cs (ist st cs n k).P v < 0
        · simp (maxSteps := 4000000) only [↓packA0, ↓packA1, ↓packA2, ↓reduceIte, packB0, packB1, packB2, packB3, packB4, pureOp, quietOp, loadOp, quietB, fr0, cellsK, Option.getD_some, Option.getD_none, implies_true, ite_true, ite_false, eq_self, ne_eq, reduceCtorEq, Nat.reduceLT, Nat.reduceLeDiff, Nat.reduceAdd, Nat.reduceMul, Nat.reduceBEq, Nat.reduceEqDiff, Int.reduceToNat, Int.reduceLT, Int.reduceLE, Nat.reduceSub, pl85, tfun_1, telem_1, tsize_2, tbytes_2, tagg_2, zcells_2, telem_2, tint_2, tnotIface_2, tsize_3, tbytes_3, tagg_3, zcells_3, telem_3, tint_3, tnotIface_3, tsize_4, tbytes_4, tagg_4, zcells_4, telem_4, tbool_4, tnotIface_4, tsize_23, tbytes_23, tagg_23, zcells_23, telem_23, tnotIface_23, tsize_45, tbytes_45, tagg_45, zcells_45, telem_45, tnotIface_45, foff_45_0, foff_45_1, foff_45_2, foff_45_3, fplaces_45, tsize_52, tbytes_52, tagg_52, zcells_52, telem_52, tnotIface_52, a2, a6, a7, a8, a9, a20, a21, a24, a25, r3, e0, e1, e2, hP', r4]
          exact ⟨by omega, by omega, by omega, .inl ⟨n - (v + 1), by omega, v + 1, t, rfl, by omega, rfl, (he ⟨hP, .inl r4⟩).symm, by omega⟩⟩
        · obtain ⟨b, hb4⟩ : ∃ b : Nat, bI st cs (ist st cs n k).P v = (b : Int) := ⟨(bI st cs (ist st cs n k).P v).toNat, by omega⟩
          rw [hb4] at hd he r4 a9 hi
          rw [Int.toNat_natCast] at hd he
          have hAv := hAc v r2
          have hAb := hAc b (by omega)
          simp (maxSteps := 4000000) only [↓packA0, ↓packA1, ↓packA2, ↓reduceIte, packB0, packB1, packB2, packB3, packB4, pureOp, quietOp, loadOp, quietB, fr0, cellsK, Option.getD_some, Option.getD_none, implies_true, ite_true, ite_false, eq_self, ne_eq, reduceCtorEq, Nat.reduceLT, Nat.reduceLeDiff, Nat.reduceAdd, Nat.reduceMul, Nat.reduceBEq, Nat.reduceEqDiff, Int.reduceToNat, Int.reduceLT, Int.reduceLE, Nat.reduceSub, pl85, tfun_1, telem_1, tsize_2, tbytes_2, tagg_2, zcells_2, telem_2, tint_2, tnotIface_2, tsize_3, tbytes_3, tagg_3, zcells_3, telem_3, tint_3, tnotIface_3, tsize_4, tbytes_4, tagg_4, zcells_4, telem_4, tbool_4, tnotIface_4, tsize_23, tbytes_23, tagg_23, zcells_23, telem_23, tnotIface_23, tsize_45, tbytes_45, tagg_45, zcells_45, telem_45, tnotIface_45, foff_45_0, foff_45_1, foff_45_2, foff_45_3, fplaces_45, tsize_52, tbytes_52, tagg_52, zcells_52, telem_52, tnotIface_52, a2, a6, a7, a8, a9, a20, a21, a24, a25, r3, e0, e1, e2, hP', r4, hAv, hAb]
          obtain ⟨M, hM⟩ : ∃ M, (g ++ t).length = M := ⟨_, rfl⟩
          have rM : ∀ o, (g ++ t ++ [o])[M]? = some o := fun o => by rw [List.getElem?_append_right (by omega)]; simp only [hM, Nat.sub_self, List.getElem?_cons_zero]
          refine ⟨by omega, by omega, by omega, by omega, by omega, by omega, acalls_pure (cmp_c _ _) rfl ?_⟩
          simp (maxSteps := 4000000) only [↓packA0, ↓packA1, ↓packA2, ↓reduceIte, packB0, packB1, packB2, packB3, packB4, pureOp, quietOp, loadOp, quietB, fr0, cellsK, Option.getD_some, Option.getD_none, implies_true, ite_true, ite_false, eq_self, ne_eq, reduceCtorEq, Nat.reduceLT, Nat.reduceLeDiff, Nat.reduceAdd, Nat.reduceMul, Nat.reduceBEq, Nat.reduceEqDiff, Int.reduceToNat, Int.reduceLT, Int.reduceLE, Nat.reduceSub, pl85, tfun_1, telem_1, tsize_2, tbytes_2, tagg_2, zcells_2, telem_2, tint_2, tnotIface_2, tsize_3, tbytes_3, tagg_3, zcells_3, telem_3, tint_3, tnotIface_3, tsize_4, tbytes_4, tagg_4, zcells_4, telem_4, tbool_4, tnotIface_4, tsize_23, tbytes_23, tagg_23, zcells_23, telem_23, tnotIface_23, tsize_45, tbytes_45, tagg_45, zcells_45, telem_45, tnotIface_45, foff_45_0, foff_45_1, foff_45_2, foff_45_3, fplaces_45, tsize_52, tbytes_52, tagg_52, zcells_52, telem_52, tnotIface_52, a2, a6, a7, a8, a9, a20, a21, a24, a25, r3, e0, e1, e2, hP', r4, hAv, hAb, hM, rM]
          refine acalls_pure (degree_c n n st cs hb hb2 hm v (by omega) (by omega)) rfl ?_
          simp (maxSteps := 4000000) only [↓packA0, ↓packA1, ↓packA2, ↓reduceIte, packB0, packB1, packB2, packB3, packB4, pureOp, quietOp, loadOp, quietB, fr0, cellsK, Option.getD_some, Option.getD_none, implies_true, ite_true, ite_false, eq_self, ne_eq, reduceCtorEq, Nat.reduceLT, Nat.reduceLeDiff, Nat.reduceAdd, Nat.reduceMul, Nat.reduceBEq, Nat.reduceEqDiff, Int.reduceToNat, Int.reduceLT, Int.reduceLE, Nat.reduceSub, pl85, tfun_1, telem_1, tsize_2, tbytes_2, tagg_2, zcells_2, telem_2, tint_2, tnotIface_2, tsize_3, tbytes_3, tagg_3, zcells_3, telem_3, tint_3, tnotIface_3, tsize_4, tbytes_4, tagg_4, zcells_4, telem_4, tbool_4, tnotIface_4, tsize_23, tbytes_23, tagg_23, zcells_23, telem_23, tnotIface_23, tsize_45, tbytes_45, tagg_45, zcells_45, telem_45, tnotIface_45, foff_45_0, foff_45_1, foff_45_2, foff_45_3, fplaces_45, tsize_52, tbytes_52, tagg_52, zcells_52, telem_52, tnotIface_52, a2, a6, a7, a8, a9, a20, a21, a24, a25, r3, e0, e1, e2, hP', r4, hAv, hAb, hM, rM]
          refine acalls_pure (degree_c n n st cs hb hb2 hm b (by omega) (by omega)) rfl ?_
          simp (maxSteps := 4000000) only [↓packA0, ↓packA1, ↓packA2, ↓reduceIte, packB0, packB1, packB2, packB3, packB4, pureOp, quietOp, loadOp, quietB, fr0, cellsK, Option.getD_some, Option.getD_none, implies_true, ite_true, ite_false, eq_self, ne_eq, reduceCtorEq, Nat.reduceLT, Nat.reduceLeDiff, Nat.reduceAdd, Nat.reduceMul, Nat.reduceBEq, Nat.reduceEqDiff, Int.reduceToNat, Int.reduceLT, Int.reduceLE, Nat.reduceSub, pl85, tfun_1, telem_1, tsize_2, tbytes_2, tagg_2, zcells_2, telem_2, tint_2, tnotIface_2, tsize_3, tbytes_3, tagg_3, zcells_3, telem_3, tint_3, tnotIface_3, tsize_4, tbytes_4, tagg_4, zcells_4, telem_4, tbool_4, tnotIface_4, tsize_23, tbytes_23, tagg_23, zcells_23, telem_23, tnotIface_23, tsize_45, tbytes_45, tagg_45, zcells_45, telem_45, tnotIface_45, foff_45_0, foff_45_1, foff_45_2, foff_45_3, fplaces_45, tsize_52, tbytes_52, tagg_52, zcells_52, telem_52, tnotIface_52, a2, a6, a7, a8, a9, a20, a21, a24, a25, r3, e0, e1, e2, hP', r4, hAv, hAb, hM, rM]
          refine acalls_pure (cmp_c _ _) rfl ?_
          simp (maxSteps := 4000000) only [↓packA0, ↓packA1, ↓packA2, ↓reduceIte, packB0, packB1, packB2, packB3, packB4, pureOp, quietOp, loadOp, quietB, fr0, cellsK, Option.getD_some, Option.getD_none, implies_true, ite_true, ite_false, eq_self, ne_eq, reduceCtorEq, Nat.reduceLT, Nat.reduceLeDiff, Nat.reduceAdd, Nat.reduceMul, Nat.reduceBEq, Nat.reduceEqDiff, Int.reduceToNat, Int.reduceLT, Int.reduceLE, Nat.reduceSub, pl85, tfun_1, telem_1, tsize_2, tbytes_2, tagg_2, zcells_2, telem_2, tint_2, tnotIface_2, tsize_3, tbytes_3, tagg_3, zcells_3, telem_3, tint_3, tnotIface_3, tsize_4, tbytes_4, tagg_4, zcells_4, telem_4, tbool_4, tnotIface_4, tsize_23, tbytes_23, tagg_23, zcells_23, telem_23, tnotIface_23, tsize_45, tbytes_45, tagg_45, zcells_45, telem_45, tnotIface_45, foff_45_0, foff_45_1, foff_45_2, foff_45_3, fplaces_45, tsize_52, tbytes_52, tagg_52, zcells_52, telem_52, tnotIface_52, a2, a6, a7, a8, a9, a20, a21, a24, a25, r3, e0, e1, e2, hP', r4, hAv, hAb, hM, rM]
          have ra0 : ∀ o, (g ++ t ++ [o])[0]? = _ := fun o => (List.getElem?_append_left (by simp; omega)).trans e0
          have ra1 : ∀ o, (g ++ t ++ [o])[1]? = _ := fun o => (List.getElem?_append_left (by simp; omega)).trans e1
          have ra2 : ∀ o, (g ++ t ++ [o])[2]? = _ := fun o => (List.getElem?_append_left (by simp; omega)).trans e2
          refine acalls_lend (or_c (cmpI (cnt st cs (ist st cs n k).P v) (cnt st cs (ist st cs n k).P b)) (cmpI (rowOf st cs v).length (rowOf st cs b).length)) (.cons (frz_ints (l := [cmpI (cnt st cs (ist st cs n k).P v) (cnt st cs (ist st cs n k).P b), cmpI (rowOf st cs v).length (rowOf st cs b).length]) (l' := [cmpI (cnt st cs (ist st cs n k).P v) (cnt st cs (ist st cs n k).P b), cmpI (rowOf st cs v).length (rowOf st cs b).length]) (rM (.arr 1 (List.map intE [cmpI (cnt st cs (ist st cs n k).P v) (cnt st cs (ist st cs n k).P b), cmpI (rowOf st cs v).length (rowOf st cs b).length]) true)) rfl rfl) .nil) rfl ?_
          by_cases hB : bts st cs (ist st cs n k).P v b
          · have r5 := orI_bts.2 hB
            simp (maxSteps := 4000000) only [↓packA0, ↓packA1, ↓packA2, ↓reduceIte, packB0, packB1, packB2, packB3, packB4, pureOp, quietOp, loadOp, quietB, fr0, cellsK, Option.getD_some, Option.getD_none, implies_true, ite_true, ite_false, eq_self, ne_eq, reduceCtorEq, Nat.reduceLT, Nat.reduceLeDiff, Nat.reduceAdd, Nat.reduceMul, Nat.reduceBEq, Nat.reduceEqDiff, Int.reduceToNat, Int.reduceLT, Int.reduceLE, Nat.reduceSub, pl85, tfun_1, telem_1, tsize_2, tbytes_2, tagg_2, zcells_2, telem_2, tint_2, tnotIface_2, tsize_3, tbytes_3, tagg_3, zcells_3, telem_3, tint_3, tnotIface_3, tsize_4, tbytes_4, tagg_4, zcells_4, telem_4, tbool_4, tnotIface_4, tsize_23, tbytes_23, tagg_23, zcells_23, telem_23, tnotIface_23, tsize_45, tbytes_45, tagg_45, zcells_45, telem_45, tnotIface_45, foff_45_0, foff_45_1, foff_45_2, foff_45_3, fplaces_45, tsize_52, tbytes_52, tagg_52, zcells_52, telem_52, tnotIface_52, a2, a6, a7, a8, a9, a20, a21, a24, a25, r3, e0, e1, e2, hP', r4, hAv, hAb, hM, rM, ra0, ra1, ra2, r5]
            exact ⟨by omega, .inl ⟨n - (v + 1), by omega, v + 1, t ++ [_], rfl, by omega, List.append_assoc _ _ _, (he ⟨hP, .inr hB⟩).symm, by omega⟩⟩
          · have r5 : ¬ 0 < orI (cmpI (cnt st cs (ist st cs n k).P v) (cnt st cs (ist st cs n k).P b)) (cmpI (rowOf st cs v).length (rowOf st cs b).length) := fun h => hB (orI_bts.1 h)
            simp (maxSteps := 4000000) only [↓packA0, ↓packA1, ↓packA2, ↓reduceIte, packB0, packB1, packB2, packB3, packB4, pureOp, quietOp, loadOp, quietB, fr0, cellsK, Option.getD_some, Option.getD_none, implies_true, ite_true, ite_false, eq_self, ne_eq, reduceCtorEq, Nat.reduceLT, Nat.reduceLeDiff, Nat.reduceAdd, Nat.reduceMul, Nat.reduceBEq, Nat.reduceEqDiff, Int.reduceToNat, Int.reduceLT, Int.reduceLE, Nat.reduceSub, pl85, tfun_1, telem_1, tsize_2, tbytes_2, tagg_2, zcells_2, telem_2, tint_2, tnotIface_2, tsize_3, tbytes_3, tagg_3, zcells_3, telem_3, tint_3, tnotIface_3, tsize_4, tbytes_4, tagg_4, zcells_4, telem_4, tbool_4, tnotIface_4, tsize_23, tbytes_23, tagg_23, zcells_23, telem_23, tnotIface_23, tsize_45, tbytes_45, tagg_45, zcells_45, telem_45, tnotIface_45, foff_45_0, foff_45_1, foff_45_2, foff_45_3, fplaces_45, tsize_52, tbytes_52, tagg_52, zcells_52, telem_52, tnotIface_52, a2, a6, a7, a8, a9, a20, a21, a24, a25, r3, e0, e1, e2, hP', r4, hAv, hAb, hM, rM, ra0, ra1, ra2, r5]
            exact ⟨by omega, .inl ⟨n - (v + 1), by omega, v + 1, t ++ [_], rfl, by omega, List.append_assoc _ _ _, (hd (fun hc => hc.2.elim r4 hB)).symm, by omega⟩⟩
    · have r3 : ¬ (v : Int) < (n : Int) := by omega
      obtain rfl : v = n := by omega
      have hbb := ist_best hI r
      have hfb := (bI_pos v hbb).1
      obtain ⟨b, hb4⟩ : ∃ b : Nat, bI st cs (ist st cs v k).P v = (b : Int) := ⟨(bI st cs (ist st cs v k).P v).toNat, by omega⟩
      have hsP : (ist st cs v (k + 1)).P = (ist st cs v k).P.set b true := by show List.set _ _ _ = _; rw [hb4, Int.toNat_natCast]
      have hsL : (ist st cs v (k + 1)).L = (ist st cs v k).L ++ [(b : Int)] := by show _ ++ [_] = _; rw [hb4]
      rw [hb4] at a9 hi hfb
      rw [Int.toNat_natCast] at hfb
      have hbn : b < v := by omega
      have hbG : BC F012 (g ++ t) x (ist st cs v k).L := hb1.app
      have lG : 2 < (g ++ t).length := by simp; omega
      generalize g ++ t = G at *
      obtain ⟨M, hM⟩ : ∃ M, G.length = M := ⟨_, rfl⟩
      have rM : ∀ o, ((G.set 1 (.arr 1 (List.map boolE ((ist st cs v k).P.set b true)) true)) ++ [o])[M]? = some o := fun o => by rw [List.getElem?_append_right (by simp [hM])]; simp [hM]
      simp (maxSteps := 4000000) only [↓packA0, ↓packA1, ↓packA2, ↓reduceIte, packB0, packB1, packB2, packB3, packB4, pureOp, quietOp, loadOp, quietB, fr0, cellsK, Option.getD_some, Option.getD_none, implies_true, ite_true, ite_false, eq_self, ne_eq, reduceCtorEq, Nat.reduceLT, Nat.reduceLeDiff, Nat.reduceAdd, Nat.reduceMul, Nat.reduceBEq, Nat.reduceEqDiff, Int.reduceToNat, Int.reduceLT, Int.reduceLE, Nat.reduceSub, pl85, tfun_1, telem_1, tsize_2, tbytes_2, tagg_2, zcells_2, telem_2, tint_2, tnotIface_2, tsize_3, tbytes_3, tagg_3, zcells_3, telem_3, tint_3, tnotIface_3, tsize_4, tbytes_4, tagg_4, zcells_4, telem_4, tbool_4, tnotIface_4, tsize_23, tbytes_23, tagg_23, zcells_23, telem_23, tnotIface_23, tsize_45, tbytes_45, tagg_45, zcells_45, telem_45, tnotIface_45, foff_45_0, foff_45_1, foff_45_2, foff_45_3, fplaces_45, tsize_52, tbytes_52, tagg_52, zcells_52, telem_52, tnotIface_52, a2, a6, a7, a8, a9, a20, a21, a24, a25, r3, e0, e1, e2, hM, rM]
      refine ⟨by omega, by omega, push_bc (F := F012) (fun i hi => by simp [hM]; rcases hi with rfl | rfl | rfl <;> omega) ((hbG.keep (F' := F012) (fun id e h1 h2 => ⟨h2, by rw [List.getElem?_set_ne (fun e => h2 (.inr (.inl e.symm)))]⟩)).app) (by omega) fun x' G' hcx hl' hf' hb' => ?_⟩
      obtain ⟨xi, xl, xc, xe, rfl⟩ := hcx
      have f0 : G'[0]? = _ := (hf' 0 (.inl rfl)).trans ((List.getElem?_append_left (by simp; omega)).trans ((List.getElem?_set_ne (by omega)).trans e0))
      have f1 : G'[1]? = _ := (hf' 1 (.inr (.inl rfl))).trans ((List.getElem?_append_left (by simp; omega)).trans (List.getElem?_set_self (by omega)))
      have f2 : G'[2]? = _ := (hf' 2 (.inr (.inr rfl))).trans ((List.getElem?_append_left (by simp; omega)).trans ((List.getElem?_set_ne (by omega)).trans e2))
      simp (maxSteps := 4000000) only [↓packA0, ↓packA1, ↓packA2, ↓reduceIte, packB0, packB1, packB2, packB3, packB4, pureOp, quietOp, loadOp, quietB, fr0, cellsK, Option.getD_some, Option.getD_none, implies_true, ite_true, ite_false, eq_self, ne_eq, reduceCtorEq, Nat.reduceLT, Nat.reduceLeDiff, Nat.reduceAdd, Nat.reduceMul, Nat.reduceBEq, Nat.reduceEqDiff, Int.reduceToNat, Int.reduceLT, Int.reduceLE, Nat.reduceSub, pl85, tfun_1, telem_1, tsize_2, tbytes_2, tagg_2, zcells_2, telem_2, tint_2, tnotIface_2, tsize_3, tbytes_3, tagg_3, zcells_3, telem_3, tint_3, tnotIface_3, tsize_4, tbytes_4, tagg_4, zcells_4, telem_4, tbool_4, tnotIface_4, tsize_23, tbytes_23, tagg_23, zcells_23, telem_23, tnotIface_23, tsize_45, tbytes_45, tagg_45, zcells_45, telem_45, tnotIface_45, foff_45_0, foff_45_1, foff_45_2, foff_45_3, fplaces_45, tsize_52, tbytes_52, tagg_52, zcells_52, telem_52, tnotIface_52, a2, a6, a7, a8, a9, a20, a21, a24, a25, f0, f1, f2]
      refine acalls_pure (neigh_c v v st cs hb hb2 hm b (by omega) (by omega)) rfl ?_
      simp (maxSteps := 4000000) only [↓packA0, ↓packA1, ↓packA2, ↓reduceIte, packB0, packB1, packB2, packB3, packB4, pureOp, quietOp, loadOp, quietB, fr0, cellsK, Option.getD_some, Option.getD_none, implies_true, ite_true, ite_false, eq_self, ne_eq, reduceCtorEq, Nat.reduceLT, Nat.reduceLeDiff, Nat.reduceAdd, Nat.reduceMul, Nat.reduceBEq, Nat.reduceEqDiff, Int.reduceToNat, Int.reduceLT, Int.reduceLE, Nat.reduceSub, pl85, tfun_1, telem_1, tsize_2, tbytes_2, tagg_2, zcells_2, telem_2, tint_2, tnotIface_2, tsize_3, tbytes_3, tagg_3, zcells_3, telem_3, tint_3, tnotIface_3, tsize_4, tbytes_4, tagg_4, zcells_4, telem_4, tbool_4, tnotIface_4, tsize_23, tbytes_23, tagg_23, zcells_23, telem_23, tnotIface_23, tsize_45, tbytes_45, tagg_45, zcells_45, telem_45, tnotIface_45, foff_45_0, foff_45_1, foff_45_2, foff_45_3, fplaces_45, tsize_52, tbytes_52, tagg_52, zcells_52, telem_52, tnotIface_52, ints, a2, a6, a7, a8, a9, a20, a21, a24, a25, f0, f1, f2]
      have q4 := (may_row hm (show b < (v : Int).toNat by omega)).2.2.2.1
      have hrl := row_len hm hbn
      refine LoopK.intro (fun m a h2 => ∃ (j : Nat) (A2 : List Int), m = (rowOf st cs b).length - j ∧ j ≤ (rowOf st cs b).length ∧ BC F012 h2 (.osl xi 1 0 xl xc xe) ((ist st cs v k).L ++ [(b : Int)]) ∧ A2.length = v ∧ (∀ u : Nat, u < v → A2.getD u default = cnt st cs (ist st cs v k).P u + (if (u : Int) ∈ (rowOf st cs b).take j then 1 else 0)) ∧ h2[0]? = some (patO v v st cs) ∧ h2[1]? = some (.arr 1 (List.map boolE ((ist st cs v k).P.set b true)) true) ∧ h2[2]? = some (.arr 1 (List.map intE A2) true) ∧ a 2 = .op 0 4 0 0 ∧ a 6 = .osl 1 1 0 v v true ∧ a 7 = .osl 2 1 0 v v true ∧ a 8 = .osl xi 1 0 xl xc xe ∧ a 20 = .int .i64 v ∧ a 21 = .int .i64 k ∧ a 69 = ints (rowOf st cs b) ∧ a 70 = .int .i64 (rowOf st cs b).length ∧ a 71 = .int .i64 j) (rowOf st cs b).length ⟨0, A, rfl, Nat.zero_le _, hb', hA, fun u hu => by rw [hAc u hu]; simp, f0, f1, f2, ?_⟩ ?_
      · simp (maxSteps := 4000000) only [↓packA0, ↓packA1, ↓packA2, ↓reduceIte, packB0, packB1, packB2, packB3, packB4, pureOp, quietOp, loadOp, quietB, fr0, cellsK, Option.getD_some, Option.getD_none, implies_true, ite_true, ite_false, eq_self, ne_eq, reduceCtorEq, Nat.reduceLT, Nat.reduceLeDiff, Nat.reduceAdd, Nat.reduceMul, Nat.reduceBEq, Nat.reduceEqDiff, Int.reduceToNat, Int.reduceLT, Int.reduceLE, Nat.reduceSub, pl85, tfun_1, telem_1, tsize_2, tbytes_2, tagg_2, zcells_2, telem_2, tint_2, tnotIface_2, tsize_3, tbytes_3, tagg_3, zcells_3, telem_3, tint_3, tnotIface_3, tsize_4, tbytes_4, tagg_4, zcells_4, telem_4, tbool_4, tnotIface_4, tsize_23, tbytes_23, tagg_23, zcells_23, telem_23, tnotIface_23, tsize_45, tbytes_45, tagg_45, zcells_45, telem_45, tnotIface_45, foff_45_0, foff_45_1, foff_45_2, foff_45_3, fplaces_45, tsize_52, tbytes_52, tagg_52, zcells_52, telem_52, tnotIface_52, a2, a6, a7, a8, a9, a20, a21, a24, a25, ints, Int.natCast_zero]
      clear a2 a6 a7 a8 a9 a20 a21 a24 a25 f0 f1 f2 hb' hf' hl'
      rintro m a h2 ⟨j, A2, rfl, hj, hb', hA2, hA2c, f0, f1, f2, a2, a6, a7, a8, a20, a21, a69, a70, a71⟩
      have lh : 2 < h2.length := (List.getElem?_eq_some_iff.1 f2).1
      by_cases r5 : j < (rowOf st cs b).length
      · have r6 : (j : Int) < ((rowOf st cs b).length : Int) := by omega
        obtain ⟨w, hw, hwn⟩ : ∃ w : Nat, (rowOf st cs b).getD j default = w ∧ w < v := by
          have h4 := row_nonneg q4 r5
          have h5 := (q4 j r5).2
          exact ⟨((rowOf st cs b).getD j default).toNat, by omega, by omega⟩
        have hAw := hA2c w hwn
        simp (maxSteps := 4000000) only [↓packA0, ↓packA1, ↓packA2, ↓reduceIte, packB0, packB1, packB2, packB3, packB4, pureOp, quietOp, loadOp, quietB, fr0, cellsK, Option.getD_some, Option.getD_none, implies_true, ite_true, ite_false, eq_self, ne_eq, reduceCtorEq, Nat.reduceLT, Nat.reduceLeDiff, Nat.reduceAdd, Nat.reduceMul, Nat.reduceBEq, Nat.reduceEqDiff, Int.reduceToNat, Int.reduceLT, Int.reduceLE, Nat.reduceSub, pl85, tfun_1, telem_1, tsize_2, tbytes_2, tagg_2, zcells_2, telem_2, tint_2, tnotIface_2, tsize_3, tbytes_3, tagg_3, zcells_3, telem_3, tint_3, tnotIface_3, tsize_4, tbytes_4, tagg_4, zcells_4, telem_4, tbool_4, tnotIface_4, tsize_23, tbytes_23, tagg_23, zcells_23, telem_23, tnotIface_23, tsize_45, tbytes_45, tagg_45, zcells_45, telem_45, tnotIface_45, foff_45_0, foff_45_1, foff_45_2, foff_45_3, fplaces_45, tsize_52, tbytes_52, tagg_52, zcells_52, telem_52, tnotIface_52, a2, a6, a7, a8, a20, a21, a69, a70, a71, r6, f0, f1, f2, ints, hw, hAw]
        have htk : ∀ u : Nat, ((u : Int) ∈ (rowOf st cs b).take (j + 1) ↔ (u : Int) ∈ (rowOf st cs b).take j ∨ u = w) := fun u => by
          rw [List.take_add_one, List.getElem?_eq_getElem r5, ← gd r5, hw, List.mem_append]
          simp only [Option.toList, List.mem_singleton]
          constructor
          · rintro (h5 | h5)
            · exact .inl h5
            · exact .inr (by omega)
          · rintro (h5 | h5)
            · exact .inl h5
            · exact .inr (by omega)
        have hnt : ¬ ((w : Nat) : Int) ∈ (rowOf st cs b).take j := fun hc => by
          obtain ⟨i, hi, e⟩ := mem_getD.1 hc
          simp only [List.length_take] at hi
          rw [List.getD_eq_getElem?_getD, List.getElem?_take, if_pos (by omega), ← List.getD_eq_getElem?_getD] at e
          have := row_lt q4 (show i < j by omega) r5
          omega
        rw [if_neg hnt] at hAw
        have hcl : cnt st cs (ist st cs v k).P w ≤ v := Nat.le_trans cnt_le (row_len hm hwn)
        simp only [if_neg hnt]
        refine ⟨by omega, by omega, by omega, by omega, by omega, by omega, by omega, by omega, .inl ⟨(rowOf st cs b).length - (j + 1), by omega, j + 1, _, rfl, by omega, hb'.keep (fun id e h1 h2 => ⟨h2, by rw [List.getElem?_set_ne (fun e => h2 (.inr (.inr e.symm)))]⟩), by rw [List.length_set]; exact hA2, fun u hu => ?_, (List.getElem?_set_ne (by omega)).trans f0, (List.getElem?_set_ne (by omega)).trans f1, List.getElem?_set_self lh, by omega⟩⟩
        rw [getI_set (by omega)]
        by_cases e : u = w
        · subst e
          rw [if_pos rfl, if_pos ((htk u).2 (.inr rfl))]
          omega
        · rw [if_neg e, hA2c u hu]
          have : ((u : Int) ∈ (rowOf st cs b).take (j + 1) ↔ (u : Int) ∈ (rowOf st cs b).take j) := by rw [htk]; simp [e]
          simp only [this]
      · have r6 : ¬ (j : Int) < ((rowOf st cs b).length : Int) := by omega
        obtain rfl : j = (rowOf st cs b).length := by omega
        simp (maxSteps := 4000000) only [↓packA0, ↓packA1, ↓packA2, ↓reduceIte, packB0, packB1, packB2, packB3, packB4, pureOp, quietOp, loadOp, quietB, fr0, cellsK, Option.getD_some, Option.getD_none, implies_true, ite_true, ite_false, eq_self, ne_eq, reduceCtorEq, Nat.reduceLT, Nat.reduceLeDiff, Nat.reduceAdd, Nat.reduceMul, Nat.reduceBEq, Nat.reduceEqDiff, Int.reduceToNat, Int.reduceLT, Int.reduceLE, Nat.reduceSub, pl85, tfun_1, telem_1, tsize_2, tbytes_2, tagg_2, zcells_2, telem_2, tint_2, tnotIface_2, tsize_3, tbytes_3, tagg_3, zcells_3, telem_3, tint_3, tnotIface_3, tsize_4, tbytes_4, tagg_4, zcells_4, telem_4, tbool_4, tnotIface_4, tsize_23, tbytes_23, tagg_23, zcells_23, telem_23, tnotIface_23, tsize_45, tbytes_45, tagg_45, zcells_45, telem_45, tnotIface_45, foff_45_0, foff_45_1, foff_45_2, foff_45_3, fplaces_45, tsize_52, tbytes_52, tagg_52, zcells_52, telem_52, tnotIface_52, a2, a6, a7, a8, a20, a21, a69, a70, a71, r6, f0, f1, f2, ints]
        refine ⟨by omega, .inl ⟨v - (k + 1), by omega, k + 1, _, A2, rfl, by omega, by rw [hsL]; exact hb', hA2, fun u hu => ?_, by rw [hsP], rfl, rfl, by omega⟩⟩
        rw [hA2c u hu, List.take_of_length_le (Nat.le_refl _), hsP, cnt_put hg hbn hu hfb (by omega)]
        split <;> simp
  · have r1 : ¬ (k : Int) < (n : Int) := by omega
    obtain rfl : k = n := by omega
    simp (maxSteps := 4000000) only [↓packA0, ↓packA1, ↓packA2, ↓reduceIte, packB0, packB1, packB2, packB3, packB4, pureOp, quietOp, loadOp, quietB, fr0, cellsK, Option.getD_some, Option.getD_none, implies_true, ite_true, ite_false, eq_self, ne_eq, reduceCtorEq, Nat.reduceLT, Nat.reduceLeDiff, Nat.reduceAdd, Nat.reduceMul, Nat.reduceBEq, Nat.reduceEqDiff, Int.reduceToNat, Int.reduceLT, Int.reduceLE, Nat.reduceSub, pl85, tfun_1, telem_1, tsize_2, tbytes_2, tagg_2, zcells_2, telem_2, tint_2, tnotIface_2, tsize_3, tbytes_3, tagg_3, zcells_3, telem_3, tint_3, tnotIface_3, tsize_4, tbytes_4, tagg_4, zcells_4, telem_4, tbool_4, tnotIface_4, tsize_23, tbytes_23, tagg_23, zcells_23, telem_23, tnotIface_23, tsize_45, tbytes_45, tagg_45, zcells_45, telem_45, tnotIface_45, foff_45_0, foff_45_1, foff_45_2, foff_45_3, fplaces_45, tsize_52, tbytes_52, tagg_52, zcells_52, telem_52, tnotIface_52, a2, a6, a7, a8, a20, a21, r1, g0]
    exact .two (bc_ofz hb1) (.flat _ rfl)
end Go.Proofs.Ytgdlkhgfehclpaa
end

section
/- Order of any kind: scripts, both. No condition. -/
namespace Go.Proofs.Ytgdlkhgfehclpaa
open Go Go.AL
set_option linter.unusedVariables false
set_option linter.unusedSimpArgs false
set_option maxRecDepth 100000 in
theorem clone_c (xs : List Int) (hb : xs.length < 1000000000) : ACalls Try.prog 105 [ints xs] [] fun v h => OFz h v (ints xs) := by
  refine (wp105 rfl rfl ?_)
  simp (maxSteps := 4000000) only [↓packA0, ↓packA1, ↓packA2, ↓reduceIte, packB0, packB1, packB2, packB3, packB4, pureOp, quietOp, loadOp, quietB, fr0, cellsK, Option.getD_some, Option.getD_none, implies_true, ite_true, ite_false, eq_self, ne_eq, reduceCtorEq, Nat.reduceLT, Nat.reduceLeDiff, Nat.reduceAdd, Nat.reduceMul, Nat.reduceBEq, Nat.reduceEqDiff, Int.reduceToNat, Int.reduceLT, Int.reduceLE, Nat.reduceSub, pl105, tsize_3, tbytes_3, tagg_3, zcells_3, telem_3, tint_3, tnotIface_3, tsize_23, tbytes_23, tagg_23, zcells_23, telem_23, tnotIface_23, ints]
  refine ⟨fun e => ?_, by omega, fun e => ⟨e, ?_⟩, fun e => ofz_ints (l := xs) rfl rfl⟩
  · rw [e]; exact .nils 1
  · obtain rfl : xs = [] := List.length_eq_zero_iff.1 (by omega)
    exact ofz_ints (l := []) rfl rfl
noncomputable def scrE (n : Int) (xs : List Int) : Int := if checkR n xs = 0 then 0 else 182
noncomputable def scrL (n : Int) (xs : List Int) : List Int := if checkR n xs = 0 then xs else []
set_option maxRecDepth 100000 in
theorem scr_c (n : Nat) (hn : n ≤ 128) (st cs xs : List Int) (hb : xs.length < 1000000000) : ACalls Try.prog 86 [pat n n st cs, ints xs] [] fun v h => OFz h v (.tup [ints (scrL n xs), .int .i64 (scrE n xs)]) := by
  refine (wp86 rfl rfl ?_)
  simp (maxSteps := 4000000) only [↓packA0, ↓packA1, ↓packA2, ↓reduceIte, packB0, packB1, packB2, packB3, packB4, pureOp, quietOp, loadOp, quietB, fr0, cellsK, Option.getD_some, Option.getD_none, implies_true, ite_true, ite_false, eq_self, ne_eq, reduceCtorEq, Nat.reduceLT, Nat.reduceLeDiff, Nat.reduceAdd, Nat.reduceMul, Nat.reduceBEq, Nat.reduceEqDiff, Int.reduceToNat, Int.reduceLT, Int.reduceLE, Nat.reduceSub, pl86, tsize_3, tbytes_3, tagg_3, zcells_3, telem_3, tint_3, tnotIface_3, tsize_23, tbytes_23, tagg_23, zcells_23, telem_23, tnotIface_23, tsize_45, tbytes_45, tagg_45, zcells_45, telem_45, tnotIface_45, foff_45_0, foff_45_1, foff_45_2, foff_45_3, fplaces_45, tsize_53, tbytes_53, tagg_53, zcells_53, telem_53, tint_53, tnotIface_53, ints]
  refine acalls_pure (check_c n xs) rfl ?_
  by_cases c : checkR n xs = 0
  · simp (maxSteps := 4000000) only [↓packA0, ↓packA1, ↓packA2, ↓reduceIte, packB0, packB1, packB2, packB3, packB4, pureOp, quietOp, loadOp, quietB, fr0, cellsK, Option.getD_some, Option.getD_none, implies_true, ite_true, ite_false, eq_self, ne_eq, reduceCtorEq, Nat.reduceLT, Nat.reduceLeDiff, Nat.reduceAdd, Nat.reduceMul, Nat.reduceBEq, Nat.reduceEqDiff, Int.reduceToNat, Int.reduceLT, Int.reduceLE, Nat.reduceSub, pl86, tsize_3, tbytes_3, tagg_3, zcells_3, telem_3, tint_3, tnotIface_3, tsize_23, tbytes_23, tagg_23, zcells_23, telem_23, tnotIface_23, tsize_45, tbytes_45, tagg_45, zcells_45, telem_45, tnotIface_45, foff_45_0, foff_45_1, foff_45_2, foff_45_3, fplaces_45, tsize_53, tbytes_53, tagg_53, zcells_53, telem_53, tint_53, tnotIface_53, ints, c, Int.cast_ofNat_Int, Int.natCast_zero, Int.natCast_one, Int.reduceAdd, Int.reduceSub, Int.reduceNeg, Int.reduceMul, Int.reduceToNat, Int.reduceLT, Int.reduceLE, Int.reduceEq, Int.reduceBEq, Int.reduceBNe, Nat.reduceSub, Nat.reduceLT, List.getD_cons_zero, List.getD_cons_succ, List.length_singleton, Bool.and_true, Bool.and_false]
    refine acalls_ofz (clone_c xs hb) rfl (fun u h0 hz _ => ?_)
    simp (maxSteps := 4000000) only [↓packA0, ↓packA1, ↓packA2, ↓reduceIte, packB0, packB1, packB2, packB3, packB4, pureOp, quietOp, loadOp, quietB, fr0, cellsK, Option.getD_some, Option.getD_none, implies_true, ite_true, ite_false, eq_self, ne_eq, reduceCtorEq, Nat.reduceLT, Nat.reduceLeDiff, Nat.reduceAdd, Nat.reduceMul, Nat.reduceBEq, Nat.reduceEqDiff, Int.reduceToNat, Int.reduceLT, Int.reduceLE, Nat.reduceSub, pl86, tsize_3, tbytes_3, tagg_3, zcells_3, telem_3, tint_3, tnotIface_3, tsize_23, tbytes_23, tagg_23, zcells_23, telem_23, tnotIface_23, tsize_45, tbytes_45, tagg_45, zcells_45, telem_45, tnotIface_45, foff_45_0, foff_45_1, foff_45_2, foff_45_3, fplaces_45, tsize_53, tbytes_53, tagg_53, zcells_53, telem_53, tint_53, tnotIface_53, ints]
    have e1 : scrL n xs = xs := if_pos c
    have e2 : scrE n xs = 0 := if_pos c
    rw [e1, e2]
    exact .two hz (.flat _ rfl)
  · simp (maxSteps := 4000000) only [↓packA0, ↓packA1, ↓packA2, ↓reduceIte, packB0, packB1, packB2, packB3, packB4, pureOp, quietOp, loadOp, quietB, fr0, cellsK, Option.getD_some, Option.getD_none, implies_true, ite_true, ite_false, eq_self, ne_eq, reduceCtorEq, Nat.reduceLT, Nat.reduceLeDiff, Nat.reduceAdd, Nat.reduceMul, Nat.reduceBEq, Nat.reduceEqDiff, Int.reduceToNat, Int.reduceLT, Int.reduceLE, Nat.reduceSub, pl86, tsize_3, tbytes_3, tagg_3, zcells_3, telem_3, tint_3, tnotIface_3, tsize_23, tbytes_23, tagg_23, zcells_23, telem_23, tnotIface_23, tsize_45, tbytes_45, tagg_45, zcells_45, telem_45, tnotIface_45, foff_45_0, foff_45_1, foff_45_2, foff_45_3, fplaces_45, tsize_53, tbytes_53, tagg_53, zcells_53, telem_53, tint_53, tnotIface_53, ints, c]
    have e1 : scrL n xs = [] := if_neg c
    have e2 : scrE n xs = 182 := if_neg c
    have e3 : checkR n xs = 182 := by
      unfold checkR at c ⊢
      rw [if_neg (by omega)] at c ⊢
      split
      · rfl
      · rename_i h1
        rw [if_neg h1] at c
        split
        · rename_i h2
          rw [if_pos h2] at c; exact absurd rfl c
        · rfl
    rw [e1, e2, e3]
    exact .two (.nils 1) (.flat _ rfl)
end Go.Proofs.Ytgdlkhgfehclpaa
end

section
/- Smallest last, the document's. No condition. -/
namespace Go.Proofs.Ytgdlkhgfehclpaa
open Go Go.AL
set_option linter.unusedVariables false
set_option linter.unusedSimpArgs false
def bestI (st cs : List Int) (S : List Bool) (k : Nat) : Int := match bestB st cs S k with
  | none => -1
  | some b => b
theorem bestI_succ {st cs : List Int} {S : List Bool} {k : Nat} : bestI st cs S (k + 1) = if S.getD k false = true ∧ (bestI st cs S k < 0 ∨ cnt st cs S k ≤ cnt st cs S (bestI st cs S k).toNat) then (k : Int) else bestI st cs S k := by
  unfold bestI
  rw [bestB]
  cases hb : bestB st cs S k with
  | none =>
    simp only
    by_cases c : S.getD k false = true
    · rw [if_pos c, if_pos ⟨c, .inl (by omega)⟩]
    · rw [if_neg c, if_neg (fun h => c h.1)]
  | some b =>
    simp only [Int.toNat_natCast]
    by_cases c : S.getD k false = true ∧ cnt st cs S k ≤ cnt st cs S b
    · rw [if_pos c, if_pos ⟨c.1, .inr c.2⟩]
    · rw [if_neg c, if_neg (fun h => c ⟨h.1, h.2.resolve_left (by omega)⟩)]
theorem bestI_in {st cs : List Int} {S : List Bool} {k : Nat} : -1 ≤ bestI st cs S k ∧ bestI st cs S k < k := by
  unfold bestI
  cases hb : bestB st cs S k with
  | none => simp only; omega
  | some b => have := (best_some hb).1; simp only; omega
set_option maxHeartbeats 4000000 in
set_option maxRecDepth 100000 in
theorem rsmall_c (n : Nat) (hn : n ≤ 128) (st cs : List Int) (hb : st.length < 1000000000) (hb2 : cs.length < 1000000000) (hm : mayP n n st cs) : ACalls Try.prog 70 [pat n n st cs] [] fun v h => ∃ H : List Int, OFz h v (.tup [ints (ordOf st cs n), ints H]) := by
  refine (wp70 rfl rfl ?_)
  simp (maxSteps := 4000000) only [↓packA0, ↓packA1, ↓packA2, ↓reduceIte, packB0, packB1, packB2, packB3, packB4, pureOp, quietOp, loadOp, quietB, fr0, cellsK, Option.getD_some, Option.getD_none, implies_true, ite_true, ite_false, eq_self, ne_eq, reduceCtorEq, Nat.reduceLT, Nat.reduceLeDiff, Nat.reduceAdd, Nat.reduceMul, Nat.reduceBEq, Nat.reduceEqDiff, Int.reduceToNat, Int.reduceLT, Int.reduceLE, Nat.reduceSub, pl70, tsize_3, tbytes_3, tagg_3, zcells_3, telem_3, tint_3, tnotIface_3, tsize_4, tbytes_4, tagg_4, zcells_4, telem_4, tbool_4, tnotIface_4, tsize_23, tbytes_23, tagg_23, zcells_23, telem_23, tnotIface_23, tsize_45, tbytes_45, tagg_45, zcells_45, telem_45, tnotIface_45, foff_45_0, foff_45_1, foff_45_2, foff_45_3, fplaces_45, tsize_52, tbytes_52, tagg_52, zcells_52, telem_52, tnotIface_52, ints]
  refine acalls_shift (full_c n hn) rfl ?_
  rintro u h0 ⟨rfl, rfl⟩
  simp (maxSteps := 4000000) only [↓packA0, ↓packA1, ↓packA2, ↓reduceIte, packB0, packB1, packB2, packB3, packB4, pureOp, quietOp, loadOp, quietB, fr0, cellsK, Option.getD_some, Option.getD_none, implies_true, ite_true, ite_false, eq_self, ne_eq, reduceCtorEq, Nat.reduceLT, Nat.reduceLeDiff, Nat.reduceAdd, Nat.reduceMul, Nat.reduceBEq, Nat.reduceEqDiff, Int.reduceToNat, Int.reduceLT, Int.reduceLE, Nat.reduceSub, pl70, tsize_3, tbytes_3, tagg_3, zcells_3, telem_3, tint_3, tnotIface_3, tsize_4, tbytes_4, tagg_4, zcells_4, telem_4, tbool_4, tnotIface_4, tsize_23, tbytes_23, tagg_23, zcells_23, telem_23, tnotIface_23, tsize_45, tbytes_45, tagg_45, zcells_45, telem_45, tnotIface_45, foff_45_0, foff_45_1, foff_45_2, foff_45_3, fplaces_45, tsize_52, tbytes_52, tagg_52, zcells_52, telem_52, tnotIface_52, ints]
  refine ⟨by omega, by omega, by omega, ?_⟩
  refine LoopK.intro (fun m a g => ∃ (k : Nat) (H : List Int), m = n - k ∧ k ≤ n ∧ H.length = n ∧ g = [patO n n st cs, .arr 1 (List.map boolE (pst st cs n k).S) true, .arr 1 (List.map intE (pst st cs n k).O) true, .arr 1 (List.map intE H) true] ∧ a 1 = .op 0 4 0 0 ∧ a 4 = .osl 1 1 0 n n true ∧ a 5 = .osl 2 1 0 n n true ∧ a 6 = .osl 3 1 0 n n true ∧ a 7 = .int .i64 ((n : Int) - 1 - k)) n ⟨0, List.replicate n 0, rfl, Nat.zero_le _, by simp, ?_⟩ ?_
  · simp (maxSteps := 4000000) only [↓packA0, ↓packA1, ↓packA2, ↓reduceIte, packB0, packB1, packB2, packB3, packB4, pureOp, quietOp, loadOp, quietB, fr0, cellsK, Option.getD_some, Option.getD_none, implies_true, ite_true, ite_false, eq_self, ne_eq, reduceCtorEq, Nat.reduceLT, Nat.reduceLeDiff, Nat.reduceAdd, Nat.reduceMul, Nat.reduceBEq, Nat.reduceEqDiff, Int.reduceToNat, Int.reduceLT, Int.reduceLE, Nat.reduceSub, pl70, tsize_3, tbytes_3, tagg_3, zcells_3, telem_3, tint_3, tnotIface_3, tsize_4, tbytes_4, tagg_4, zcells_4, telem_4, tbool_4, tnotIface_4, tsize_23, tbytes_23, tagg_23, zcells_23, telem_23, tnotIface_23, tsize_45, tbytes_45, tagg_45, zcells_45, telem_45, tnotIface_45, foff_45_0, foff_45_1, foff_45_2, foff_45_3, fplaces_45, tsize_52, tbytes_52, tagg_52, zcells_52, telem_52, tnotIface_52, patO, ints, pst, Int.natCast_zero, Int.sub_zero]
  rintro m a g ⟨k, H, rfl, hk, hH, rfl, a1, a4, a5, a6, a7⟩
  obtain ⟨pS, pO, pC⟩ := pst_len st cs n k
  by_cases r : k < n
  · have r1 : (n : Int) - 1 - (k : Int) ≥ 0 := by omega
    simp (maxSteps := 4000000) only [↓packA0, ↓packA1, ↓packA2, ↓reduceIte, packB0, packB1, packB2, packB3, packB4, pureOp, quietOp, loadOp, quietB, fr0, cellsK, Option.getD_some, Option.getD_none, implies_true, ite_true, ite_false, eq_self, ne_eq, reduceCtorEq, Nat.reduceLT, Nat.reduceLeDiff, Nat.reduceAdd, Nat.reduceMul, Nat.reduceBEq, Nat.reduceEqDiff, Int.reduceToNat, Int.reduceLT, Int.reduceLE, Nat.reduceSub, pl70, tsize_3, tbytes_3, tagg_3, zcells_3, telem_3, tint_3, tnotIface_3, tsize_4, tbytes_4, tagg_4, zcells_4, telem_4, tbool_4, tnotIface_4, tsize_23, tbytes_23, tagg_23, zcells_23, telem_23, tnotIface_23, tsize_45, tbytes_45, tagg_45, zcells_45, telem_45, tnotIface_45, foff_45_0, foff_45_1, foff_45_2, foff_45_3, fplaces_45, tsize_52, tbytes_52, tagg_52, zcells_52, telem_52, tnotIface_52, a1, a4, a5, a6, a7, r1, patO, ints]
    refine LoopK.intro (fun m a g => ∃ (v : Nat), m = n - v ∧ v ≤ n ∧ g = [patO n n st cs, .arr 1 (List.map boolE (pst st cs n k).S) true, .arr 1 (List.map intE (pst st cs n k).O) true, .arr 1 (List.map intE H) true] ∧ a 1 = .op 0 4 0 0 ∧ a 4 = .osl 1 1 0 n n true ∧ a 5 = .osl 2 1 0 n n true ∧ a 6 = .osl 3 1 0 n n true ∧ a 7 = .int .i64 ((n : Int) - 1 - k) ∧ a 8 = .int .i64 (bestI st cs (pst st cs n k).S v) ∧ a 9 = .int .i64 v) n ⟨0, rfl, Nat.zero_le _, ?_⟩ ?_
    · simp (maxSteps := 4000000) only [↓packA0, ↓packA1, ↓packA2, ↓reduceIte, packB0, packB1, packB2, packB3, packB4, pureOp, quietOp, loadOp, quietB, fr0, cellsK, Option.getD_some, Option.getD_none, implies_true, ite_true, ite_false, eq_self, ne_eq, reduceCtorEq, Nat.reduceLT, Nat.reduceLeDiff, Nat.reduceAdd, Nat.reduceMul, Nat.reduceBEq, Nat.reduceEqDiff, Int.reduceToNat, Int.reduceLT, Int.reduceLE, Nat.reduceSub, pl70, tsize_3, tbytes_3, tagg_3, zcells_3, telem_3, tint_3, tnotIface_3, tsize_4, tbytes_4, tagg_4, zcells_4, telem_4, tbool_4, tnotIface_4, tsize_23, tbytes_23, tagg_23, zcells_23, telem_23, tnotIface_23, tsize_45, tbytes_45, tagg_45, zcells_45, telem_45, tnotIface_45, foff_45_0, foff_45_1, foff_45_2, foff_45_3, fplaces_45, tsize_52, tbytes_52, tagg_52, zcells_52, telem_52, tnotIface_52, a1, a4, a5, a6, a7, patO, ints, bestI, bestB, Int.natCast_zero]
    clear a1 a4 a5 a6 a7
    rintro m a g ⟨v, rfl, hv, rfl, a1, a4, a5, a6, a7, a8, a9⟩
    have hi := bestI_in (st := st) (cs := cs) (S := (pst st cs n k).S) (k := v)
    have hsu := bestI_succ (st := st) (cs := cs) (S := (pst st cs n k).S) (k := v)
    by_cases r2 : v < n
    · have r3 : (v : Int) < (n : Int) := by omega
      cases hP : (pst st cs n k).S.getD v false with
      | false =>
        have hP' : (pst st cs n k).S.getD v default = false := hP
        rw [if_neg (by rw [hP]; simp)] at hsu
        simp (maxSteps := 4000000) only [↓packA0, ↓packA1, ↓packA2, ↓reduceIte, packB0, packB1, packB2, packB3, packB4, pureOp, quietOp, loadOp, quietB, fr0, cellsK, Option.getD_some, Option.getD_none, implies_true, ite_true, ite_false, eq_self, ne_eq, reduceCtorEq, Nat.reduceLT, Nat.reduceLeDiff, Nat.reduceAdd, Nat.reduceMul, Nat.reduceBEq, Nat.reduceEqDiff, Int.reduceToNat, Int.reduceLT, Int.reduceLE, Nat.reduceSub, pl70, tsize_3, tbytes_3, tagg_3, zcells_3, telem_3, tint_3, tnotIface_3, tsize_4, tbytes_4, tagg_4, zcells_4, telem_4, tbool_4, tnotIface_4, tsize_23, tbytes_23, tagg_23, zcells_23, telem_23, tnotIface_23, tsize_45, tbytes_45, tagg_45, zcells_45, telem_45, tnotIface_45, foff_45_0, foff_45_1, foff_45_2, foff_45_3, fplaces_45, tsize_52, tbytes_52, tagg_52, zcells_52, telem_52, tnotIface_52, a1, a4, a5, a6, a7, a8, a9, r3, hP', patO, ints]
        exact ⟨by omega, by omega, by omega, .inl ⟨n - (v + 1), by omega, v + 1, rfl, by omega, hsu.symm, by omega⟩⟩
      | true =>
        have hP' : (pst st cs n k).S.getD v default = true := hP
        by_cases r4 : bestI st cs (pst st cs n k).S v < 0
        · rw [if_pos ⟨hP, .inl r4⟩] at hsu
          simp (maxSteps := 4000000) only [↓packA0, ↓packA1, ↓packA2, ↓reduceIte, packB0, packB1, packB2, packB3, packB4, pureOp, quietOp, loadOp, quietB, fr0, cellsK, Option.getD_some, Option.getD_none, implies_true, ite_true, ite_false, eq_self, ne_eq, reduceCtorEq, Nat.reduceLT, Nat.reduceLeDiff, Nat.reduceAdd, Nat.reduceMul, Nat.reduceBEq, Nat.reduceEqDiff, Int.reduceToNat, Int.reduceLT, Int.reduceLE, Nat.reduceSub, pl70, tsize_3, tbytes_3, tagg_3, zcells_3, telem_3, tint_3, tnotIface_3, tsize_4, tbytes_4, tagg_4, zcells_4, telem_4, tbool_4, tnotIface_4, tsize_23, tbytes_23, tagg_23, zcells_23, telem_23, tnotIface_23, tsize_45, tbytes_45, tagg_45, zcells_45, telem_45, tnotIface_45, foff_45_0, foff_45_1, foff_45_2, foff_45_3, fplaces_45, tsize_52, tbytes_52, tagg_52, zcells_52, telem_52, tnotIface_52, a1, a4, a5, a6, a7, a8, a9, r3, hP', r4, patO, ints]
          exact ⟨by omega, by omega, by omega, .inl ⟨n - (v + 1), by omega, v + 1, rfl, by omega, hsu.symm, by omega⟩⟩
        · obtain ⟨b, hb4⟩ : ∃ b : Nat, bestI st cs (pst st cs n k).S v = (b : Int) := ⟨(bestI st cs (pst st cs n k).S v).toNat, by omega⟩
          rw [hb4] at hsu r4 a8 hi
          rw [Int.toNat_natCast] at hsu
          simp (maxSteps := 4000000) only [↓packA0, ↓packA1, ↓packA2, ↓reduceIte, packB0, packB1, packB2, packB3, packB4, pureOp, quietOp, loadOp, quietB, fr0, cellsK, Option.getD_some, Option.getD_none, implies_true, ite_true, ite_false, eq_self, ne_eq, reduceCtorEq, Nat.reduceLT, Nat.reduceLeDiff, Nat.reduceAdd, Nat.reduceMul, Nat.reduceBEq, Nat.reduceEqDiff, Int.reduceToNat, Int.reduceLT, Int.reduceLE, Nat.reduceSub, pl70, tsize_3, tbytes_3, tagg_3, zcells_3, telem_3, tint_3, tnotIface_3, tsize_4, tbytes_4, tagg_4, zcells_4, telem_4, tbool_4, tnotIface_4, tsize_23, tbytes_23, tagg_23, zcells_23, telem_23, tnotIface_23, tsize_45, tbytes_45, tagg_45, zcells_45, telem_45, tnotIface_45, foff_45_0, foff_45_1, foff_45_2, foff_45_3, fplaces_45, tsize_52, tbytes_52, tagg_52, zcells_52, telem_52, tnotIface_52, a1, a4, a5, a6, a7, a8, a9, r3, hP', r4, patO, ints]
          refine ⟨by omega, by omega, acalls_lend (among_c n st cs (pst st cs n k).S hb hb2 hm hn v r2 pS) (.cons (.pure _ rfl) (.cons (.pure _ rfl) (.cons (frz_bools rfl pS) .nil))) rfl ?_⟩
          simp (maxSteps := 4000000) only [↓packA0, ↓packA1, ↓packA2, ↓reduceIte, packB0, packB1, packB2, packB3, packB4, pureOp, quietOp, loadOp, quietB, fr0, cellsK, Option.getD_some, Option.getD_none, implies_true, ite_true, ite_false, eq_self, ne_eq, reduceCtorEq, Nat.reduceLT, Nat.reduceLeDiff, Nat.reduceAdd, Nat.reduceMul, Nat.reduceBEq, Nat.reduceEqDiff, Int.reduceToNat, Int.reduceLT, Int.reduceLE, Nat.reduceSub, pl70, tsize_3, tbytes_3, tagg_3, zcells_3, telem_3, tint_3, tnotIface_3, tsize_4, tbytes_4, tagg_4, zcells_4, telem_4, tbool_4, tnotIface_4, tsize_23, tbytes_23, tagg_23, zcells_23, telem_23, tnotIface_23, tsize_45, tbytes_45, tagg_45, zcells_45, telem_45, tnotIface_45, foff_45_0, foff_45_1, foff_45_2, foff_45_3, fplaces_45, tsize_52, tbytes_52, tagg_52, zcells_52, telem_52, tnotIface_52, a1, a4, a5, a6, a7, a8, a9, r3, hP', r4, patO, ints]
          refine acalls_lend (among_c n st cs (pst st cs n k).S hb hb2 hm hn b (by omega) pS) (.cons (.pure _ rfl) (.cons (.pure _ rfl) (.cons (frz_bools rfl pS) .nil))) rfl ?_
          by_cases r5 : cnt st cs (pst st cs n k).S v ≤ cnt st cs (pst st cs n k).S b
          · rw [if_pos ⟨hP, .inr r5⟩] at hsu
            have r6 : ((cnt st cs (pst st cs n k).S v : Nat) : Int) ≤ (cnt st cs (pst st cs n k).S b : Nat) := by omega
            simp (maxSteps := 4000000) only [↓packA0, ↓packA1, ↓packA2, ↓reduceIte, packB0, packB1, packB2, packB3, packB4, pureOp, quietOp, loadOp, quietB, fr0, cellsK, Option.getD_some, Option.getD_none, implies_true, ite_true, ite_false, eq_self, ne_eq, reduceCtorEq, Nat.reduceLT, Nat.reduceLeDiff, Nat.reduceAdd, Nat.reduceMul, Nat.reduceBEq, Nat.reduceEqDiff, Int.reduceToNat, Int.reduceLT, Int.reduceLE, Nat.reduceSub, pl70, tsize_3, tbytes_3, tagg_3, zcells_3, telem_3, tint_3, tnotIface_3, tsize_4, tbytes_4, tagg_4, zcells_4, telem_4, tbool_4, tnotIface_4, tsize_23, tbytes_23, tagg_23, zcells_23, telem_23, tnotIface_23, tsize_45, tbytes_45, tagg_45, zcells_45, telem_45, tnotIface_45, foff_45_0, foff_45_1, foff_45_2, foff_45_3, fplaces_45, tsize_52, tbytes_52, tagg_52, zcells_52, telem_52, tnotIface_52, a1, a4, a5, a6, a7, a8, a9, r3, hP', r4, patO, ints, r6]
            exact ⟨by omega, .inl ⟨n - (v + 1), by omega, v + 1, rfl, by omega, hsu.symm, by omega⟩⟩
          · rw [if_neg (fun h => h.2.elim r4 r5)] at hsu
            have r6 : ¬ ((cnt st cs (pst st cs n k).S v : Nat) : Int) ≤ (cnt st cs (pst st cs n k).S b : Nat) := by omega
            simp (maxSteps := 4000000) only [↓packA0, ↓packA1, ↓packA2, ↓reduceIte, packB0, packB1, packB2, packB3, packB4, pureOp, quietOp, loadOp, quietB, fr0, cellsK, Option.getD_some, Option.getD_none, implies_true, ite_true, ite_false, eq_self, ne_eq, reduceCtorEq, Nat.reduceLT, Nat.reduceLeDiff, Nat.reduceAdd, Nat.reduceMul, Nat.reduceBEq, Nat.reduceEqDiff, Int.reduceToNat, Int.reduceLT, Int.reduceLE, Nat.reduceSub, pl70, tsize_3, tbytes_3, tagg_3, zcells_3, telem_3, tint_3, tnotIface_3, tsize_4, tbytes_4, tagg_4, zcells_4, telem_4, tbool_4, tnotIface_4, tsize_23, tbytes_23, tagg_23, zcells_23, telem_23, tnotIface_23, tsize_45, tbytes_45, tagg_45, zcells_45, telem_45, tnotIface_45, foff_45_0, foff_45_1, foff_45_2, foff_45_3, fplaces_45, tsize_52, tbytes_52, tagg_52, zcells_52, telem_52, tnotIface_52, a1, a4, a5, a6, a7, a8, a9, r3, hP', r4, patO, ints, r6]
            exact ⟨by omega, .inl ⟨n - (v + 1), by omega, v + 1, rfl, by omega, hsu.symm, by omega⟩⟩
    · have r3 : ¬ (v : Int) < (n : Int) := by omega
      obtain rfl : v = n := by omega
      have hbv := best_uniq (bv_best (st := st) (cs := cs) r)
      have hbi : bestI st cs (pst st cs v k).S v = bv st cs v k := by unfold bestI; rw [hbv]
      rw [hbi] at a8 hi
      have hps := pst_next (st := st) (cs := cs) r
      generalize bv st cs v k = b at *
      simp (maxSteps := 4000000) only [↓packA0, ↓packA1, ↓packA2, ↓reduceIte, packB0, packB1, packB2, packB3, packB4, pureOp, quietOp, loadOp, quietB, fr0, cellsK, Option.getD_some, Option.getD_none, implies_true, ite_true, ite_false, eq_self, ne_eq, reduceCtorEq, Nat.reduceLT, Nat.reduceLeDiff, Nat.reduceAdd, Nat.reduceMul, Nat.reduceBEq, Nat.reduceEqDiff, Int.reduceToNat, Int.reduceLT, Int.reduceLE, Nat.reduceSub, pl70, tsize_3, tbytes_3, tagg_3, zcells_3, telem_3, tint_3, tnotIface_3, tsize_4, tbytes_4, tagg_4, zcells_4, telem_4, tbool_4, tnotIface_4, tsize_23, tbytes_23, tagg_23, zcells_23, telem_23, tnotIface_23, tsize_45, tbytes_45, tagg_45, zcells_45, telem_45, tnotIface_45, foff_45_0, foff_45_1, foff_45_2, foff_45_3, fplaces_45, tsize_52, tbytes_52, tagg_52, zcells_52, telem_52, tnotIface_52, a1, a4, a5, a6, a7, a8, a9, r3, patO, ints]
      refine acalls_lend (among_c v st cs (pst st cs v k).S hb hb2 hm hn b (by omega) pS) (.cons (.pure _ rfl) (.cons (.pure _ rfl) (.cons (frz_bools rfl pS) .nil))) rfl ?_
      simp (maxSteps := 4000000) only [↓packA0, ↓packA1, ↓packA2, ↓reduceIte, packB0, packB1, packB2, packB3, packB4, pureOp, quietOp, loadOp, quietB, fr0, cellsK, Option.getD_some, Option.getD_none, implies_true, ite_true, ite_false, eq_self, ne_eq, reduceCtorEq, Nat.reduceLT, Nat.reduceLeDiff, Nat.reduceAdd, Nat.reduceMul, Nat.reduceBEq, Nat.reduceEqDiff, Int.reduceToNat, Int.reduceLT, Int.reduceLE, Nat.reduceSub, pl70, tsize_3, tbytes_3, tagg_3, zcells_3, telem_3, tint_3, tnotIface_3, tsize_4, tbytes_4, tagg_4, zcells_4, telem_4, tbool_4, tnotIface_4, tsize_23, tbytes_23, tagg_23, zcells_23, telem_23, tnotIface_23, tsize_45, tbytes_45, tagg_45, zcells_45, telem_45, tnotIface_45, foff_45_0, foff_45_1, foff_45_2, foff_45_3, fplaces_45, tsize_52, tbytes_52, tagg_52, zcells_52, telem_52, tnotIface_52, a1, a4, a5, a6, a7, a8, a9, r3, patO, ints]
      refine ⟨by omega, by omega, by omega, by omega, by omega, by omega, by omega, .inl ⟨v - (k + 1), by omega, k + 1, H.set b (cnt st cs (pst st cs v k).S b), rfl, by omega, by rw [List.length_set]; exact hH, ?_, by omega⟩⟩
      rw [hps, show ((v : Int) - 1 - k).toNat = v - 1 - k by omega]
  · have r1 : ¬ (n : Int) - 1 - (k : Int) ≥ 0 := by omega
    obtain rfl : k = n := by omega
    simp (maxSteps := 4000000) only [↓packA0, ↓packA1, ↓packA2, ↓reduceIte, packB0, packB1, packB2, packB3, packB4, pureOp, quietOp, loadOp, quietB, fr0, cellsK, Option.getD_some, Option.getD_none, implies_true, ite_true, ite_false, eq_self, ne_eq, reduceCtorEq, Nat.reduceLT, Nat.reduceLeDiff, Nat.reduceAdd, Nat.reduceMul, Nat.reduceBEq, Nat.reduceEqDiff, Int.reduceToNat, Int.reduceLT, Int.reduceLE, Nat.reduceSub, pl70, tsize_3, tbytes_3, tagg_3, zcells_3, telem_3, tint_3, tnotIface_3, tsize_4, tbytes_4, tagg_4, zcells_4, telem_4, tbool_4, tnotIface_4, tsize_23, tbytes_23, tagg_23, zcells_23, telem_23, tnotIface_23, tsize_45, tbytes_45, tagg_45, zcells_45, telem_45, tnotIface_45, foff_45_0, foff_45_1, foff_45_2, foff_45_3, fplaces_45, tsize_52, tbytes_52, tagg_52, zcells_52, telem_52, tnotIface_52, a1, a4, a5, a6, a7, r1, patO, ints]
    exact ⟨H, .two (ofz_ints (l := (pst st cs k k).O) rfl pO.symm) (ofz_ints rfl hH.symm)⟩
end Go.Proofs.Ytgdlkhgfehclpaa
end

section
/- The law OrderSets, walked. No condition. -/
namespace Go.Proofs.Ytgdlkhgfehclpaa
open Go Go.AL
set_option linter.unusedVariables false
set_option linter.unusedSimpArgs false
theorem wrong_c (rows width : Int) (st cs : List Int) (hb : st.length < 1000000000) (hb2 : cs.length < 1000000000) : APure Try.prog 21 [pat rows width st cs] (.bool (!decide (graphP rows width st cs))) := by
  refine apure_of (wp21 rfl rfl ?_)
  simp (maxSteps := 4000000) +contextual only [↓packA0, ↓packA1, ↓packA2, ↓reduceIte, packB0, packB1, packB2, packB3, packB4, pureOp, quietOp, loadOp, quietB, fr0, cellsK, Option.getD_some, Option.getD_none, implies_true, ite_true, ite_false, eq_self, ne_eq, reduceCtorEq, Nat.reduceLT, Nat.reduceLeDiff, Nat.reduceAdd, Nat.reduceMul, Nat.reduceBEq, Nat.reduceEqDiff, Int.reduceToNat, Int.reduceLT, Int.reduceLE, Nat.reduceSub, pl21, tsize_3, tbytes_3, tagg_3, zcells_3, telem_3, tint_3, tnotIface_3, tsize_4, tbytes_4, tagg_4, zcells_4, telem_4, tbool_4, tnotIface_4, tsize_23, tbytes_23, tagg_23, zcells_23, telem_23, tnotIface_23, tsize_45, tbytes_45, tagg_45, zcells_45, telem_45, tnotIface_45, foff_45_0, foff_45_1, foff_45_2, foff_45_3, fplaces_45, ints]
  refine acalls_pure (rgraph_c rows width st cs hb hb2) rfl ?_
  simp (maxSteps := 4000000) +contextual only [↓packA0, ↓packA1, ↓packA2, ↓reduceIte, packB0, packB1, packB2, packB3, packB4, pureOp, quietOp, loadOp, quietB, fr0, cellsK, Option.getD_some, Option.getD_none, implies_true, ite_true, ite_false, eq_self, ne_eq, reduceCtorEq, Nat.reduceLT, Nat.reduceLeDiff, Nat.reduceAdd, Nat.reduceMul, Nat.reduceBEq, Nat.reduceEqDiff, Int.reduceToNat, Int.reduceLT, Int.reduceLE, Nat.reduceSub, pl21, tsize_3, tbytes_3, tagg_3, zcells_3, telem_3, tint_3, tnotIface_3, tsize_4, tbytes_4, tagg_4, zcells_4, telem_4, tbool_4, tnotIface_4, tsize_23, tbytes_23, tagg_23, zcells_23, telem_23, tnotIface_23, tsize_45, tbytes_45, tagg_45, zcells_45, telem_45, tnotIface_45, foff_45_0, foff_45_1, foff_45_2, foff_45_3, fplaces_45, ints]
  exact .pure _ rfl
set_option maxRecDepth 100000 in
theorem inside_c (n : Nat) (st cs : List Int) (S : List Bool) (hb : st.length < 1000000000) (hb2 : cs.length < 1000000000) (hm : mayP n n st cs) (hn : n ≤ 128) (v : Nat) (hv : v < n) (hS : S.length < 1000000000) : APure Try.prog 23 [pat n n st cs, .int .i64 v, bools S] (.int .i64 (cnt st cs S v)) := by
  have q4 := (may_row hm (show v < (n : Int).toNat by omega)).2.2.2.1
  have hrl := row_len hm hv
  refine apure_of (wp23 rfl rfl ?_)
  simp (maxSteps := 4000000) +contextual only [↓packA0, ↓packA1, ↓packA2, ↓reduceIte, packB0, packB1, packB2, packB3, packB4, pureOp, quietOp, loadOp, quietB, fr0, cellsK, Option.getD_some, Option.getD_none, implies_true, ite_true, ite_false, eq_self, ne_eq, reduceCtorEq, Nat.reduceLT, Nat.reduceLeDiff, Nat.reduceAdd, Nat.reduceMul, Nat.reduceBEq, Nat.reduceEqDiff, Int.reduceToNat, Int.reduceLT, Int.reduceLE, Nat.reduceSub, pl23, tsize_3, tbytes_3, tagg_3, zcells_3, telem_3, tint_3, tnotIface_3, tsize_4, tbytes_4, tagg_4, zcells_4, telem_4, tbool_4, tnotIface_4, tsize_23, tbytes_23, tagg_23, zcells_23, telem_23, tnotIface_23, tsize_45, tbytes_45, tagg_45, zcells_45, telem_45, tnotIface_45, foff_45_0, foff_45_1, foff_45_2, foff_45_3, fplaces_45, tsize_52, tbytes_52, tagg_52, zcells_52, telem_52, tnotIface_52, ints, bools]
  refine acalls_pure (rneigh_c n n st cs hb hb2 hm v (by omega) (by omega)) rfl ?_
  simp (maxSteps := 4000000) +contextual only [↓packA0, ↓packA1, ↓packA2, ↓reduceIte, packB0, packB1, packB2, packB3, packB4, pureOp, quietOp, loadOp, quietB, fr0, cellsK, Option.getD_some, Option.getD_none, implies_true, ite_true, ite_false, eq_self, ne_eq, reduceCtorEq, Nat.reduceLT, Nat.reduceLeDiff, Nat.reduceAdd, Nat.reduceMul, Nat.reduceBEq, Nat.reduceEqDiff, Int.reduceToNat, Int.reduceLT, Int.reduceLE, Nat.reduceSub, pl23, tsize_3, tbytes_3, tagg_3, zcells_3, telem_3, tint_3, tnotIface_3, tsize_4, tbytes_4, tagg_4, zcells_4, telem_4, tbool_4, tnotIface_4, tsize_23, tbytes_23, tagg_23, zcells_23, telem_23, tnotIface_23, tsize_45, tbytes_45, tagg_45, zcells_45, telem_45, tnotIface_45, foff_45_0, foff_45_1, foff_45_2, foff_45_3, fplaces_45, tsize_52, tbytes_52, tagg_52, zcells_52, telem_52, tnotIface_52, ints, bools]
  refine LoopK.intro (fun m a h => ∃ j : Nat, m = (rowOf st cs v).length - j ∧ j ≤ (rowOf st cs v).length ∧ a 2 = bools S ∧ a 7 = .int .i64 (((rowOf st cs v).take j).filter (fun w => S.getD w.toNat false)).length ∧ a 8 = ints (rowOf st cs v) ∧ a 9 = .int .i64 j ∧ h = [patO n n st cs]) (rowOf st cs v).length ⟨0, rfl, Nat.zero_le _, ?_⟩ ?_
  · simp (maxSteps := 4000000) only [↓packA0, ↓packA1, ↓packA2, ↓reduceIte, packB0, packB1, packB2, packB3, packB4, pureOp, quietOp, loadOp, quietB, fr0, cellsK, Option.getD_some, Option.getD_none, implies_true, ite_true, ite_false, eq_self, ne_eq, reduceCtorEq, Nat.reduceLT, Nat.reduceLeDiff, Nat.reduceAdd, Nat.reduceMul, Nat.reduceBEq, Nat.reduceEqDiff, Int.reduceToNat, Int.reduceLT, Int.reduceLE, Nat.reduceSub, pl23, tsize_3, tbytes_3, tagg_3, zcells_3, telem_3, tint_3, tnotIface_3, tsize_4, tbytes_4, tagg_4, zcells_4, telem_4, tbool_4, tnotIface_4, tsize_23, tbytes_23, tagg_23, zcells_23, telem_23, tnotIface_23, tsize_45, tbytes_45, tagg_45, zcells_45, telem_45, tnotIface_45, foff_45_0, foff_45_1, foff_45_2, foff_45_3, fplaces_45, tsize_52, tbytes_52, tagg_52, zcells_52, telem_52, tnotIface_52, ints, bools, patO, Int.natCast_zero]
    rfl
  rintro m a h ⟨j, rfl, hj, a2, a7, a8, a9, rfl⟩
  simp (maxSteps := 4000000) +contextual only [↓packA0, ↓packA1, ↓packA2, ↓reduceIte, packB0, packB1, packB2, packB3, packB4, pureOp, quietOp, loadOp, quietB, fr0, cellsK, Option.getD_some, Option.getD_none, implies_true, ite_true, ite_false, eq_self, ne_eq, reduceCtorEq, Nat.reduceLT, Nat.reduceLeDiff, Nat.reduceAdd, Nat.reduceMul, Nat.reduceBEq, Nat.reduceEqDiff, Int.reduceToNat, Int.reduceLT, Int.reduceLE, Nat.reduceSub, pl23, tsize_3, tbytes_3, tagg_3, zcells_3, telem_3, tint_3, tnotIface_3, tsize_4, tbytes_4, tagg_4, zcells_4, telem_4, tbool_4, tnotIface_4, tsize_23, tbytes_23, tagg_23, zcells_23, telem_23, tnotIface_23, tsize_45, tbytes_45, tagg_45, zcells_45, telem_45, tnotIface_45, foff_45_0, foff_45_1, foff_45_2, foff_45_3, fplaces_45, tsize_52, tbytes_52, tagg_52, zcells_52, telem_52, tnotIface_52, ints, bools, patO, a2, a7, a8, a9]
  refine ⟨fun h2 => ?_, fun h2 => ?_⟩
  · have hj2 : j < (rowOf st cs v).length := by omega
    have h3 := row_nonneg q4 hj2
    have h4 := (q4 j hj2).2
    have hft := ftake (p := fun w : Int => S.getD w.toNat false) hj2
    have hfl : (((rowOf st cs v).take j).filter (fun w : Int => S.getD w.toNat false)).length ≤ 128 := Nat.le_trans (List.length_filter_le _ _) (by simp; omega)
    have hyes : (S.getD ((rowOf st cs v).getD j default).toNat false = true) → (((rowOf st cs v).take (j + 1)).filter (fun w : Int => S.getD w.toNat false)).length = (((rowOf st cs v).take j).filter (fun w : Int => S.getD w.toNat false)).length + 1 := fun h => by rw [hft, if_pos h]
    have hno : ¬ (S.getD ((rowOf st cs v).getD j default).toNat false = true) → (((rowOf st cs v).take (j + 1)).filter (fun w : Int => S.getD w.toNat false)).length = (((rowOf st cs v).take j).filter (fun w : Int => S.getD w.toNat false)).length := fun h => by rw [hft, if_neg h]; rfl
    have keep : ¬ (S.getD ((rowOf st cs v).getD j default).toNat false = true) → ∃ m', m' < (rowOf st cs v).length - j ∧ ∃ j_1, m' = (rowOf st cs v).length - j_1 ∧ j_1 ≤ (rowOf st cs v).length ∧ ((((rowOf st cs v).take j).filter (fun w : Int => S.getD w.toNat false)).length : Int) = (((rowOf st cs v).take j_1).filter (fun w : Int => S.getD w.toNat false)).length ∧ (j : Int) + 1 = j_1 := fun h => ⟨(rowOf st cs v).length - (j + 1), by omega, j + 1, rfl, by omega, by rw [hno h], by omega⟩
    refine ⟨by omega, by omega, fun h5 => ⟨by omega, by omega, by omega, by omega, fun h6 => ⟨by omega, by omega, .inl ⟨(rowOf st cs v).length - (j + 1), by omega, j + 1, rfl, by omega, by rw [hyes h6]; omega, by omega⟩⟩, fun h6 => ⟨by omega, .inl (keep fun hc => by first | exact h6 hc | (rw [show S.getD ((rowOf st cs v).getD j default).toNat default = true from hc] at h6; cases h6))⟩⟩, fun h5 => ⟨by omega, .inl (keep fun hc => ?_)⟩⟩
    rw [List.getD_eq_getElem?_getD, List.getElem?_eq_none (by omega)] at hc
    cases hc
  · obtain rfl : j = (rowOf st cs v).length := by omega
    rw [List.take_length]
    exact .pure _ rfl
set_option maxHeartbeats 8000000 in
set_option maxRecDepth 100000 in
theorem law_sets (rows width : Int) (st cs : List Int) (S : List Bool) (q : Int) (hb : st.length < 10000000) (hb2 : cs.length < 10000000) (hS : S.length < 10000000) : ACalls Try.prog 6 [pat rows width st cs, bools S, .int .i64 q] [] fun v h => OFz h v (.bool true) := by
  have hD := degen_c rows width st cs (by omega) (by omega)
  by_cases hg : graphP rows width st cs
  · replace hD := hD.mono (Q' := fun v h => OFz h v (.tup [.int .i64 (mxK (coresOf st cs rows.toNat) rows.toNat), ints (coresOf st cs rows.toNat), .int .i64 0])) fun u h hh => hh.1 hg
    have hw : APure Try.prog 21 [pat rows width st cs] (.bool false) := by
      have := wrong_c rows width st cs (by omega) (by omega)
      rw [decide_eq_true hg] at this
      exact this
    obtain ⟨n, rfl, rfl, hn⟩ := graph_sides hg
    rw [Int.toNat_natCast] at hD
    have hCl : (coresOf st cs n).length = n := (pst_len st cs n n).2.2
    refine (wp6 rfl rfl ?_)
    simp (maxSteps := 4000000) +contextual only [↓packA0, ↓packA1, ↓packA2, ↓reduceIte, packB0, packB1, packB2, packB3, packB4, pureOp, quietOp, loadOp, quietB, fr0, cellsK, Option.getD_some, Option.getD_none, implies_true, ite_true, ite_false, eq_self, ne_eq, reduceCtorEq, Nat.reduceLT, Nat.reduceLeDiff, Nat.reduceAdd, Nat.reduceMul, Nat.reduceBEq, Nat.reduceEqDiff, Int.reduceToNat, Int.reduceLT, Int.reduceLE, Nat.reduceSub, pl6, tsize_3, tbytes_3, tagg_3, zcells_3, telem_3, tint_3, tnotIface_3, tsize_4, tbytes_4, tagg_4, zcells_4, telem_4, tbool_4, tnotIface_4, tsize_23, tbytes_23, tagg_23, zcells_23, telem_23, tnotIface_23, tsize_45, tbytes_45, tagg_45, zcells_45, telem_45, tnotIface_45, foff_45_0, foff_45_1, foff_45_2, foff_45_3, fplaces_45, tsize_52, tbytes_52, tagg_52, zcells_52, telem_52, tnotIface_52, tsize_53, tbytes_53, tagg_53, zcells_53, telem_53, tint_53, tnotIface_53, ints, bools]
    refine acalls_fresh hD ?_ (fun u h0 hz => ⟨_, hz, ?_⟩)
    · exact .cons (.pure _ rfl) .nil
    simp (maxSteps := 4000000) +contextual only [↓packA0, ↓packA1, ↓packA2, ↓reduceIte, packB0, packB1, packB2, packB3, packB4, pureOp, quietOp, loadOp, quietB, fr0, cellsK, Option.getD_some, Option.getD_none, implies_true, ite_true, ite_false, eq_self, ne_eq, reduceCtorEq, Nat.reduceLT, Nat.reduceLeDiff, Nat.reduceAdd, Nat.reduceMul, Nat.reduceBEq, Nat.reduceEqDiff, Int.reduceToNat, Int.reduceLT, Int.reduceLE, Nat.reduceSub, pl6, tsize_3, tbytes_3, tagg_3, zcells_3, telem_3, tint_3, tnotIface_3, tsize_4, tbytes_4, tagg_4, zcells_4, telem_4, tbool_4, tnotIface_4, tsize_23, tbytes_23, tagg_23, zcells_23, telem_23, tnotIface_23, tsize_45, tbytes_45, tagg_45, zcells_45, telem_45, tnotIface_45, foff_45_0, foff_45_1, foff_45_2, foff_45_3, fplaces_45, tsize_52, tbytes_52, tagg_52, zcells_52, telem_52, tnotIface_52, tsize_53, tbytes_53, tagg_53, zcells_53, telem_53, tint_53, tnotIface_53, ints, bools]
    refine acalls_pure hw rfl ?_
    simp (maxSteps := 4000000) +contextual only [↓packA0, ↓packA1, ↓packA2, ↓reduceIte, packB0, packB1, packB2, packB3, packB4, pureOp, quietOp, loadOp, quietB, fr0, cellsK, Option.getD_some, Option.getD_none, implies_true, ite_true, ite_false, eq_self, ne_eq, reduceCtorEq, Nat.reduceLT, Nat.reduceLeDiff, Nat.reduceAdd, Nat.reduceMul, Nat.reduceBEq, Nat.reduceEqDiff, Int.reduceToNat, Int.reduceLT, Int.reduceLE, Nat.reduceSub, pl6, tsize_3, tbytes_3, tagg_3, zcells_3, telem_3, tint_3, tnotIface_3, tsize_4, tbytes_4, tagg_4, zcells_4, telem_4, tbool_4, tnotIface_4, tsize_23, tbytes_23, tagg_23, zcells_23, telem_23, tnotIface_23, tsize_45, tbytes_45, tagg_45, zcells_45, telem_45, tnotIface_45, foff_45_0, foff_45_1, foff_45_2, foff_45_3, fplaces_45, tsize_52, tbytes_52, tagg_52, zcells_52, telem_52, tnotIface_52, tsize_53, tbytes_53, tagg_53, zcells_53, telem_53, tint_53, tnotIface_53, ints, bools]
    refine ⟨fun hq0 => ?_, fun hq0 => ⟨fun hq1 => ?_, fun hq1 => ?_⟩⟩
    · refine wp22 rfl rfl ?_
      simp (maxSteps := 4000000) +contextual only [↓packA0, ↓packA1, ↓packA2, ↓reduceIte, packB0, packB1, packB2, packB3, packB4, pureOp, quietOp, loadOp, quietB, fr0, cellsK, Option.getD_some, Option.getD_none, implies_true, ite_true, ite_false, eq_self, ne_eq, reduceCtorEq, Nat.reduceLT, Nat.reduceLeDiff, Nat.reduceAdd, Nat.reduceMul, Nat.reduceBEq, Nat.reduceEqDiff, Int.reduceToNat, Int.reduceLT, Int.reduceLE, Nat.reduceSub, pl22, pl6, tsize_3, tbytes_3, tagg_3, zcells_3, telem_3, tint_3, tnotIface_3, tsize_4, tbytes_4, tagg_4, zcells_4, telem_4, tbool_4, tnotIface_4, tsize_23, tbytes_23, tagg_23, zcells_23, telem_23, tnotIface_23, tsize_45, tbytes_45, tagg_45, zcells_45, telem_45, tnotIface_45, foff_45_0, foff_45_1, foff_45_2, foff_45_3, fplaces_45, tsize_52, tbytes_52, tagg_52, zcells_52, telem_52, tnotIface_52, tsize_53, tbytes_53, tagg_53, zcells_53, telem_53, tint_53, tnotIface_53, ints, bools, Int.cast_ofNat_Int, Int.natCast_zero, Int.natCast_one, Int.reduceAdd, Int.reduceSub, Int.reduceNeg, Int.reduceMul, Int.reduceToNat, Int.reduceLT, Int.reduceLE, Int.reduceEq, Int.reduceBEq, Int.reduceBNe, Nat.reduceSub, Nat.reduceLT, List.getD_cons_zero, List.getD_cons_succ, List.length_singleton, Bool.and_true, Bool.and_false]
      refine acalls_pure hw rfl ?_
      simp (maxSteps := 4000000) +contextual only [↓packA0, ↓packA1, ↓packA2, ↓reduceIte, packB0, packB1, packB2, packB3, packB4, pureOp, quietOp, loadOp, quietB, fr0, cellsK, Option.getD_some, Option.getD_none, implies_true, ite_true, ite_false, eq_self, ne_eq, reduceCtorEq, Nat.reduceLT, Nat.reduceLeDiff, Nat.reduceAdd, Nat.reduceMul, Nat.reduceBEq, Nat.reduceEqDiff, Int.reduceToNat, Int.reduceLT, Int.reduceLE, Nat.reduceSub, pl6, tsize_3, tbytes_3, tagg_3, zcells_3, telem_3, tint_3, tnotIface_3, tsize_4, tbytes_4, tagg_4, zcells_4, telem_4, tbool_4, tnotIface_4, tsize_23, tbytes_23, tagg_23, zcells_23, telem_23, tnotIface_23, tsize_45, tbytes_45, tagg_45, zcells_45, telem_45, tnotIface_45, foff_45_0, foff_45_1, foff_45_2, foff_45_3, fplaces_45, tsize_52, tbytes_52, tagg_52, zcells_52, telem_52, tnotIface_52, tsize_53, tbytes_53, tagg_53, zcells_53, telem_53, tint_53, tnotIface_53, ints, bools]
      refine acalls_fresh alive_c .nil (fun u h0 hz => ⟨_, hz, ?_⟩)
      simp (maxSteps := 4000000) +contextual only [↓packA0, ↓packA1, ↓packA2, ↓reduceIte, packB0, packB1, packB2, packB3, packB4, pureOp, quietOp, loadOp, quietB, fr0, cellsK, Option.getD_some, Option.getD_none, implies_true, ite_true, ite_false, eq_self, ne_eq, reduceCtorEq, Nat.reduceLT, Nat.reduceLeDiff, Nat.reduceAdd, Nat.reduceMul, Nat.reduceBEq, Nat.reduceEqDiff, Int.reduceToNat, Int.reduceLT, Int.reduceLE, Nat.reduceSub, pl6, tsize_3, tbytes_3, tagg_3, zcells_3, telem_3, tint_3, tnotIface_3, tsize_4, tbytes_4, tagg_4, zcells_4, telem_4, tbool_4, tnotIface_4, tsize_23, tbytes_23, tagg_23, zcells_23, telem_23, tnotIface_23, tsize_45, tbytes_45, tagg_45, zcells_45, telem_45, tnotIface_45, foff_45_0, foff_45_1, foff_45_2, foff_45_3, fplaces_45, tsize_52, tbytes_52, tagg_52, zcells_52, telem_52, tnotIface_52, tsize_53, tbytes_53, tagg_53, zcells_53, telem_53, tint_53, tnotIface_53, ints, bools]
      exact .flat _ rfl
    · refine wp22 rfl rfl ?_
      simp (maxSteps := 4000000) +contextual only [↓packA0, ↓packA1, ↓packA2, ↓reduceIte, packB0, packB1, packB2, packB3, packB4, pureOp, quietOp, loadOp, quietB, fr0, cellsK, Option.getD_some, Option.getD_none, implies_true, ite_true, ite_false, eq_self, ne_eq, reduceCtorEq, Nat.reduceLT, Nat.reduceLeDiff, Nat.reduceAdd, Nat.reduceMul, Nat.reduceBEq, Nat.reduceEqDiff, Int.reduceToNat, Int.reduceLT, Int.reduceLE, Nat.reduceSub, pl22, pl6, tsize_3, tbytes_3, tagg_3, zcells_3, telem_3, tint_3, tnotIface_3, tsize_4, tbytes_4, tagg_4, zcells_4, telem_4, tbool_4, tnotIface_4, tsize_23, tbytes_23, tagg_23, zcells_23, telem_23, tnotIface_23, tsize_45, tbytes_45, tagg_45, zcells_45, telem_45, tnotIface_45, foff_45_0, foff_45_1, foff_45_2, foff_45_3, fplaces_45, tsize_52, tbytes_52, tagg_52, zcells_52, telem_52, tnotIface_52, tsize_53, tbytes_53, tagg_53, zcells_53, telem_53, tint_53, tnotIface_53, ints, bools, Int.cast_ofNat_Int, Int.natCast_zero, Int.natCast_one, Int.reduceAdd, Int.reduceSub, Int.reduceNeg, Int.reduceMul, Int.reduceToNat, Int.reduceLT, Int.reduceLE, Int.reduceEq, Int.reduceBEq, Int.reduceBNe, Nat.reduceSub, Nat.reduceLT, List.getD_cons_zero, List.getD_cons_succ, List.length_singleton, Bool.and_true, Bool.and_false]
      refine acalls_pure hw rfl ?_
      simp (maxSteps := 4000000) +contextual only [↓packA0, ↓packA1, ↓packA2, ↓reduceIte, packB0, packB1, packB2, packB3, packB4, pureOp, quietOp, loadOp, quietB, fr0, cellsK, Option.getD_some, Option.getD_none, implies_true, ite_true, ite_false, eq_self, ne_eq, reduceCtorEq, Nat.reduceLT, Nat.reduceLeDiff, Nat.reduceAdd, Nat.reduceMul, Nat.reduceBEq, Nat.reduceEqDiff, Int.reduceToNat, Int.reduceLT, Int.reduceLE, Nat.reduceSub, pl6, tsize_3, tbytes_3, tagg_3, zcells_3, telem_3, tint_3, tnotIface_3, tsize_4, tbytes_4, tagg_4, zcells_4, telem_4, tbool_4, tnotIface_4, tsize_23, tbytes_23, tagg_23, zcells_23, telem_23, tnotIface_23, tsize_45, tbytes_45, tagg_45, zcells_45, telem_45, tnotIface_45, foff_45_0, foff_45_1, foff_45_2, foff_45_3, fplaces_45, tsize_52, tbytes_52, tagg_52, zcells_52, telem_52, tnotIface_52, tsize_53, tbytes_53, tagg_53, zcells_53, telem_53, tint_53, tnotIface_53, ints, bools]
      refine acalls_fresh alive_c .nil (fun u h0 hz => ⟨_, hz, ?_⟩)
      simp (maxSteps := 4000000) +contextual only [↓packA0, ↓packA1, ↓packA2, ↓reduceIte, packB0, packB1, packB2, packB3, packB4, pureOp, quietOp, loadOp, quietB, fr0, cellsK, Option.getD_some, Option.getD_none, implies_true, ite_true, ite_false, eq_self, ne_eq, reduceCtorEq, Nat.reduceLT, Nat.reduceLeDiff, Nat.reduceAdd, Nat.reduceMul, Nat.reduceBEq, Nat.reduceEqDiff, Int.reduceToNat, Int.reduceLT, Int.reduceLE, Nat.reduceSub, pl6, tsize_3, tbytes_3, tagg_3, zcells_3, telem_3, tint_3, tnotIface_3, tsize_4, tbytes_4, tagg_4, zcells_4, telem_4, tbool_4, tnotIface_4, tsize_23, tbytes_23, tagg_23, zcells_23, telem_23, tnotIface_23, tsize_45, tbytes_45, tagg_45, zcells_45, telem_45, tnotIface_45, foff_45_0, foff_45_1, foff_45_2, foff_45_3, fplaces_45, tsize_52, tbytes_52, tagg_52, zcells_52, telem_52, tnotIface_52, tsize_53, tbytes_53, tagg_53, zcells_53, telem_53, tint_53, tnotIface_53, ints, bools]
      exact .flat _ rfl
    obtain ⟨k, rfl⟩ := Int.eq_ofNat_of_zero_le (show 0 ≤ q by omega)
    refine wp22 rfl rfl ?_
    simp (maxSteps := 4000000) +contextual only [↓packA0, ↓packA1, ↓packA2, ↓reduceIte, packB0, packB1, packB2, packB3, packB4, pureOp, quietOp, loadOp, quietB, fr0, cellsK, Option.getD_some, Option.getD_none, implies_true, ite_true, ite_false, eq_self, ne_eq, reduceCtorEq, Nat.reduceLT, Nat.reduceLeDiff, Nat.reduceAdd, Nat.reduceMul, Nat.reduceBEq, Nat.reduceEqDiff, Int.reduceToNat, Int.reduceLT, Int.reduceLE, Nat.reduceSub, pl22, pl6, tsize_3, tbytes_3, tagg_3, zcells_3, telem_3, tint_3, tnotIface_3, tsize_4, tbytes_4, tagg_4, zcells_4, telem_4, tbool_4, tnotIface_4, tsize_23, tbytes_23, tagg_23, zcells_23, telem_23, tnotIface_23, tsize_45, tbytes_45, tagg_45, zcells_45, telem_45, tnotIface_45, foff_45_0, foff_45_1, foff_45_2, foff_45_3, fplaces_45, tsize_52, tbytes_52, tagg_52, zcells_52, telem_52, tnotIface_52, tsize_53, tbytes_53, tagg_53, zcells_53, telem_53, tint_53, tnotIface_53, ints, bools, Int.cast_ofNat_Int, Int.natCast_zero, Int.natCast_one, Int.reduceAdd, Int.reduceSub, Int.reduceNeg, Int.reduceMul, Int.reduceToNat, Int.reduceLT, Int.reduceLE, Int.reduceEq, Int.reduceBEq, Int.reduceBNe, Nat.reduceSub, Nat.reduceLT, List.getD_cons_zero, List.getD_cons_succ, List.length_singleton, Bool.and_true, Bool.and_false]
    refine ⟨fun hc => absurd (by omega) hc, fun _ => ?_⟩
    have hd0 := (mxK_ge (C := coresOf st cs n) n).1
    have hdg := (mxK_ge (C := coresOf st cs n) n).2
    generalize hdd : mxK (coresOf st cs n) n = d at *
    refine LoopK.intro (fun m a h => ∃ (v : Nat) (M : Int), m = n - v ∧ v ≤ n ∧ ((M = -1 ∧ ∀ u, u < v → ¬ S.getD u false = true) ∨ (0 ≤ M ∧ (∀ u, u < v → S.getD u false = true → M ≤ cnt st cs S u) ∧ ∃ u, u < v ∧ S.getD u false = true)) ∧ a 1 = bools S ∧ a 2 = .int .i64 k ∧ a 3 = .op 0 4 0 0 ∧ a 7 = .int .i64 d ∧ a 8 = ints (coresOf st cs n) ∧ a 10 = .int .i64 M ∧ a 11 = .int .i64 v ∧ h = [patO n n st cs]) n ⟨0, -1, rfl, Nat.zero_le _, .inl ⟨rfl, fun u hu => by omega⟩, ?_⟩ ?_
    · simp (maxSteps := 4000000) only [↓packA0, ↓packA1, ↓packA2, ↓reduceIte, packB0, packB1, packB2, packB3, packB4, pureOp, quietOp, loadOp, quietB, fr0, cellsK, Option.getD_some, Option.getD_none, implies_true, ite_true, ite_false, eq_self, ne_eq, reduceCtorEq, Nat.reduceLT, Nat.reduceLeDiff, Nat.reduceAdd, Nat.reduceMul, Nat.reduceBEq, Nat.reduceEqDiff, Int.reduceToNat, Int.reduceLT, Int.reduceLE, Nat.reduceSub, pl6, tsize_3, tbytes_3, tagg_3, zcells_3, telem_3, tint_3, tnotIface_3, tsize_4, tbytes_4, tagg_4, zcells_4, telem_4, tbool_4, tnotIface_4, tsize_23, tbytes_23, tagg_23, zcells_23, telem_23, tnotIface_23, tsize_45, tbytes_45, tagg_45, zcells_45, telem_45, tnotIface_45, foff_45_0, foff_45_1, foff_45_2, foff_45_3, fplaces_45, tsize_52, tbytes_52, tagg_52, zcells_52, telem_52, tnotIface_52, tsize_53, tbytes_53, tagg_53, zcells_53, telem_53, tint_53, tnotIface_53, ints, bools, patO, Int.natCast_zero]
    rintro m a h ⟨v, M, rfl, hv, hM, a1, a2, a3, a7, a8, a10, a11, rfl⟩
    simp (maxSteps := 4000000) +contextual only [↓packA0, ↓packA1, ↓packA2, ↓reduceIte, packB0, packB1, packB2, packB3, packB4, pureOp, quietOp, loadOp, quietB, fr0, cellsK, Option.getD_some, Option.getD_none, implies_true, ite_true, ite_false, eq_self, ne_eq, reduceCtorEq, Nat.reduceLT, Nat.reduceLeDiff, Nat.reduceAdd, Nat.reduceMul, Nat.reduceBEq, Nat.reduceEqDiff, Int.reduceToNat, Int.reduceLT, Int.reduceLE, Nat.reduceSub, pl6, tsize_3, tbytes_3, tagg_3, zcells_3, telem_3, tint_3, tnotIface_3, tsize_4, tbytes_4, tagg_4, zcells_4, telem_4, tbool_4, tnotIface_4, tsize_23, tbytes_23, tagg_23, zcells_23, telem_23, tnotIface_23, tsize_45, tbytes_45, tagg_45, zcells_45, telem_45, tnotIface_45, foff_45_0, foff_45_1, foff_45_2, foff_45_3, fplaces_45, tsize_52, tbytes_52, tagg_52, zcells_52, telem_52, tnotIface_52, tsize_53, tbytes_53, tagg_53, zcells_53, telem_53, tint_53, tnotIface_53, ints, bools, patO, a1, a2, a3, a7, a8, a10, a11]
    have skip : ¬ S.getD v false = true → ((M = -1 ∧ ∀ u, u < v + 1 → ¬ S.getD u false = true) ∨ (0 ≤ M ∧ (∀ u, u < v + 1 → S.getD u false = true → M ≤ cnt st cs S u) ∧ ∃ u, u < v + 1 ∧ S.getD u false = true)) := fun hn4 => by
      rcases hM with ⟨h5, h6⟩ | ⟨h5, h6, u0, h7, h8⟩
      · refine .inl ⟨h5, fun u hu => ?_⟩
        rcases Nat.lt_or_ge u v with h9 | h9
        · exact h6 u h9
        · rw [show u = v by omega]; exact hn4
      · refine .inr ⟨h5, fun u hu hs => ?_, u0, by omega, h8⟩
        rcases Nat.lt_or_ge u v with h9 | h9
        · exact h6 u h9 hs
        · rw [show u = v by omega] at hs; exact absurd hs hn4
    refine ⟨fun h2 => ⟨fun h3 => ⟨by omega, by omega, fun h4 => acalls_pure (inside_c n st cs S (by omega) (by omega) hg.1.1 hn v (by omega) (by omega)) rfl ?_, fun h4 => ?_⟩, fun h3 => ?_⟩, fun h2 => ?_⟩
    · have h4' : S.getD v false = true := h4
      simp (maxSteps := 4000000) +contextual only [↓packA0, ↓packA1, ↓packA2, ↓reduceIte, packB0, packB1, packB2, packB3, packB4, pureOp, quietOp, loadOp, quietB, fr0, cellsK, Option.getD_some, Option.getD_none, implies_true, ite_true, ite_false, eq_self, ne_eq, reduceCtorEq, Nat.reduceLT, Nat.reduceLeDiff, Nat.reduceAdd, Nat.reduceMul, Nat.reduceBEq, Nat.reduceEqDiff, Int.reduceToNat, Int.reduceLT, Int.reduceLE, Nat.reduceSub, pl6, tsize_3, tbytes_3, tagg_3, zcells_3, telem_3, tint_3, tnotIface_3, tsize_4, tbytes_4, tagg_4, zcells_4, telem_4, tbool_4, tnotIface_4, tsize_23, tbytes_23, tagg_23, zcells_23, telem_23, tnotIface_23, tsize_45, tbytes_45, tagg_45, zcells_45, telem_45, tnotIface_45, foff_45_0, foff_45_1, foff_45_2, foff_45_3, fplaces_45, tsize_52, tbytes_52, tagg_52, zcells_52, telem_52, tnotIface_52, tsize_53, tbytes_53, tagg_53, zcells_53, telem_53, tint_53, tnotIface_53, ints, bools, patO, a1, a2, a3, a7, a8, a10, a11]
      refine ⟨fun h5 => ⟨by omega, .inl ⟨n - (v + 1), by omega, v + 1, _, rfl, by omega, .inr ⟨by omega, fun u hu hs => ?_, v, by omega, h4'⟩, rfl, by omega⟩⟩, fun h5 => ⟨fun h6 => ⟨by omega, .inl ⟨n - (v + 1), by omega, v + 1, _, rfl, by omega, .inr ⟨by omega, fun u hu hs => ?_, v, by omega, h4'⟩, rfl, by omega⟩⟩, fun h6 => ⟨by omega, .inl ⟨n - (v + 1), by omega, v + 1, M, rfl, by omega, .inr ⟨by omega, fun u hu hs => ?_, v, by omega, h4'⟩, rfl, by omega⟩⟩⟩⟩
      · rcases hM with ⟨h7, h8⟩ | ⟨h7, h8⟩
        · rcases Nat.lt_or_ge u v with h9 | h9
          · exact absurd hs (h8 u h9)
          · rw [show u = v by omega]; exact Int.le_refl _
        · omega
      · rcases hM with ⟨h7, h8⟩ | ⟨h7, h8, _⟩
        · omega
        · rcases Nat.lt_or_ge u v with h9 | h9
          · have := h8 u h9 hs; omega
          · rw [show u = v by omega]; exact Int.le_refl _
      · rcases hM with ⟨h7, h8⟩ | ⟨h7, h8, _⟩
        · omega
        · rcases Nat.lt_or_ge u v with h9 | h9
          · exact h8 u h9 hs
          · rw [show u = v by omega]; omega
    · have h4' : ¬ S.getD v false = true := fun hc => by first | exact h4 hc | (rw [show S.getD v default = true from hc] at h4; cases h4)
      exact ⟨by omega, .inl ⟨n - (v + 1), by omega, v + 1, M, rfl, by omega, skip h4', rfl, by omega⟩⟩
    · have h4' : ¬ S.getD v false = true := fun hc => by
        rw [List.getD_eq_getElem?_getD, List.getElem?_eq_none (by omega)] at hc
        cases hc
      exact ⟨by omega, .inl ⟨n - (v + 1), by omega, v + 1, M, rfl, by omega, skip h4', rfl, by omega⟩⟩
    · obtain rfl : v = n := by omega
      have hge : ∀ u, u < v → S.getD u false = true → M ≤ (coresOf st cs v).getD u default := fun u hu hs => by
        rcases hM with ⟨h7, h8⟩ | ⟨h7, h8, _⟩
        · exact absurd hs (h8 u hu)
        · have := core_ge hg.1.1 (T := S) (q := M.toNat) (fun w hw hws => by have := h8 w hw hws; omega) u hu hs
          omega
      have hMd : ¬ d < M := by
        rcases hM with ⟨h7, h8⟩ | ⟨h7, h8, u0, h9, h10⟩
        · omega
        · have h11 := hge u0 h9 h10
          have h12 := hdg u0 h9
          omega
      refine ⟨fun h3 => absurd h3 hMd, fun _ => ⟨by omega, ?_⟩⟩
      clear hM skip
      refine LoopK.intro (fun m a h => ∃ (u : Nat) (T : List Bool), m = v - u ∧ u ≤ v ∧ T.length = v ∧ (∀ w, w < u → (T.getD w false = true ↔ (k : Int) ≤ (coresOf st cs v).getD w default)) ∧ a 1 = bools S ∧ a 2 = .int .i64 k ∧ a 3 = .op 0 4 0 0 ∧ a 8 = ints (coresOf st cs v) ∧ a 10 = .int .i64 M ∧ a 13 = .osl 1 1 0 v v true ∧ a 14 = .int .i64 u ∧ h = [patO v v st cs, Ob.arr 1 (List.map boolE T) true]) v ⟨0, List.replicate v false, rfl, Nat.zero_le _, by simp, fun w hw => by omega, ?_⟩ ?_
      · simp (maxSteps := 4000000) only [↓packA0, ↓packA1, ↓packA2, ↓reduceIte, packB0, packB1, packB2, packB3, packB4, pureOp, quietOp, loadOp, quietB, fr0, cellsK, Option.getD_some, Option.getD_none, implies_true, ite_true, ite_false, eq_self, ne_eq, reduceCtorEq, Nat.reduceLT, Nat.reduceLeDiff, Nat.reduceAdd, Nat.reduceMul, Nat.reduceBEq, Nat.reduceEqDiff, Int.reduceToNat, Int.reduceLT, Int.reduceLE, Nat.reduceSub, pl6, tsize_3, tbytes_3, tagg_3, zcells_3, telem_3, tint_3, tnotIface_3, tsize_4, tbytes_4, tagg_4, zcells_4, telem_4, tbool_4, tnotIface_4, tsize_23, tbytes_23, tagg_23, zcells_23, telem_23, tnotIface_23, tsize_45, tbytes_45, tagg_45, zcells_45, telem_45, tnotIface_45, foff_45_0, foff_45_1, foff_45_2, foff_45_3, fplaces_45, tsize_52, tbytes_52, tagg_52, zcells_52, telem_52, tnotIface_52, tsize_53, tbytes_53, tagg_53, zcells_53, telem_53, tint_53, tnotIface_53, ints, bools, patO, a1, a2, a3, a7, a8, a10, Int.natCast_zero]
      clear a1 a2 a3 a7 a8 a10 a11
      rintro m a h ⟨u, T, rfl, hu, hT, hTs, a1, a2, a3, a8, a10, a13, a14, rfl⟩
      simp (maxSteps := 4000000) +contextual only [↓packA0, ↓packA1, ↓packA2, ↓reduceIte, packB0, packB1, packB2, packB3, packB4, pureOp, quietOp, loadOp, quietB, fr0, cellsK, Option.getD_some, Option.getD_none, implies_true, ite_true, ite_false, eq_self, ne_eq, reduceCtorEq, Nat.reduceLT, Nat.reduceLeDiff, Nat.reduceAdd, Nat.reduceMul, Nat.reduceBEq, Nat.reduceEqDiff, Int.reduceToNat, Int.reduceLT, Int.reduceLE, Nat.reduceSub, pl6, tsize_3, tbytes_3, tagg_3, zcells_3, telem_3, tint_3, tnotIface_3, tsize_4, tbytes_4, tagg_4, zcells_4, telem_4, tbool_4, tnotIface_4, tsize_23, tbytes_23, tagg_23, zcells_23, telem_23, tnotIface_23, tsize_45, tbytes_45, tagg_45, zcells_45, telem_45, tnotIface_45, foff_45_0, foff_45_1, foff_45_2, foff_45_3, fplaces_45, tsize_52, tbytes_52, tagg_52, zcells_52, telem_52, tnotIface_52, tsize_53, tbytes_53, tagg_53, zcells_53, telem_53, tint_53, tnotIface_53, ints, bools, patO, a1, a2, a3, a8, a10, a13, a14]
      have hT' : u < v → ∀ w, w < u + 1 → ((T.set u (decide ((k : Int) ≤ (coresOf st cs v).getD u default))).getD w false = true ↔ (k : Int) ≤ (coresOf st cs v).getD w default) := fun huv w hw => by
        by_cases e : u = w
        · subst e
          simp [List.getD_eq_getElem?_getD, List.getElem?_set_self (show u < T.length by omega)]
        · rw [show (T.set u (decide ((k : Int) ≤ (coresOf st cs v).getD u default))).getD w false = T.getD w false by simp only [List.getD_eq_getElem?_getD, List.getElem?_set_ne e]]
          exact hTs w (by omega)
      refine ⟨fun h3 => ⟨fun h4 => ⟨by omega, by omega, fun h5 => ⟨by omega, by omega, fun h6 => ?_, fun h6 => ⟨by omega, by omega, by omega, by omega, by omega, .inl ⟨v - (u + 1), by omega, u + 1, _, rfl, by omega, by simp [hT], hT' (by omega), by omega, rfl⟩⟩⟩, fun h5 => ⟨by omega, by omega, by omega, by omega, by omega, .inl ⟨v - (u + 1), by omega, u + 1, _, rfl, by omega, by simp [hT], hT' (by omega), by omega, rfl⟩⟩⟩, fun h4 => ⟨by omega, by omega, by omega, by omega, by omega, .inl ⟨v - (u + 1), by omega, u + 1, _, rfl, by omega, by simp [hT], hT' (by omega), by omega, rfl⟩⟩⟩, fun h3 => ?_⟩
      · have := hge u (by omega) h5
        omega
      · obtain rfl : u = v := by omega
        have hin := core_le hg.1.1 hTs
        refine LoopK.intro (fun m a h => ∃ (w : Nat), m = u - w ∧ w ≤ u ∧ a 2 = .int .i64 k ∧ a 3 = .op 0 4 0 0 ∧ a 13 = .osl 1 1 0 u u true ∧ a 15 = .int .i64 w ∧ h = [patO u u st cs, Ob.arr 1 (List.map boolE T) true]) u ⟨0, rfl, Nat.zero_le _, ?_⟩ ?_
        · simp (maxSteps := 4000000) only [↓packA0, ↓packA1, ↓packA2, ↓reduceIte, packB0, packB1, packB2, packB3, packB4, pureOp, quietOp, loadOp, quietB, fr0, cellsK, Option.getD_some, Option.getD_none, implies_true, ite_true, ite_false, eq_self, ne_eq, reduceCtorEq, Nat.reduceLT, Nat.reduceLeDiff, Nat.reduceAdd, Nat.reduceMul, Nat.reduceBEq, Nat.reduceEqDiff, Int.reduceToNat, Int.reduceLT, Int.reduceLE, Nat.reduceSub, pl6, tsize_3, tbytes_3, tagg_3, zcells_3, telem_3, tint_3, tnotIface_3, tsize_4, tbytes_4, tagg_4, zcells_4, telem_4, tbool_4, tnotIface_4, tsize_23, tbytes_23, tagg_23, zcells_23, telem_23, tnotIface_23, tsize_45, tbytes_45, tagg_45, zcells_45, telem_45, tnotIface_45, foff_45_0, foff_45_1, foff_45_2, foff_45_3, fplaces_45, tsize_52, tbytes_52, tagg_52, zcells_52, telem_52, tnotIface_52, tsize_53, tbytes_53, tagg_53, zcells_53, telem_53, tint_53, tnotIface_53, ints, bools, patO, a2, a3, a13, Int.natCast_zero]
        clear a1 a2 a3 a8 a10 a13 a14
        rintro m a h ⟨w, rfl, hw, a2, a3, a13, a15, rfl⟩
        simp (maxSteps := 4000000) +contextual only [↓packA0, ↓packA1, ↓packA2, ↓reduceIte, packB0, packB1, packB2, packB3, packB4, pureOp, quietOp, loadOp, quietB, fr0, cellsK, Option.getD_some, Option.getD_none, implies_true, ite_true, ite_false, eq_self, ne_eq, reduceCtorEq, Nat.reduceLT, Nat.reduceLeDiff, Nat.reduceAdd, Nat.reduceMul, Nat.reduceBEq, Nat.reduceEqDiff, Int.reduceToNat, Int.reduceLT, Int.reduceLE, Nat.reduceSub, pl6, tsize_3, tbytes_3, tagg_3, zcells_3, telem_3, tint_3, tnotIface_3, tsize_4, tbytes_4, tagg_4, zcells_4, telem_4, tbool_4, tnotIface_4, tsize_23, tbytes_23, tagg_23, zcells_23, telem_23, tnotIface_23, tsize_45, tbytes_45, tagg_45, zcells_45, telem_45, tnotIface_45, foff_45_0, foff_45_1, foff_45_2, foff_45_3, fplaces_45, tsize_52, tbytes_52, tagg_52, zcells_52, telem_52, tnotIface_52, tsize_53, tbytes_53, tagg_53, zcells_53, telem_53, tint_53, tnotIface_53, ints, bools, patO, a2, a3, a13, a15]
        refine ⟨fun h4 => ⟨by omega, by omega, fun h5 => acalls_lend (inside_c u st cs T (by omega) (by omega) hg.1.1 hn w (by omega) (by omega)) ?_ rfl ?_, fun h5 => ⟨by omega, .inl ⟨u - (w + 1), by omega, w + 1, rfl, by omega, by omega⟩⟩⟩, fun h4 => ?_⟩
        · exact .cons (.pure _ rfl) (.cons (.pure _ rfl) (.cons (frz_bools (l := T) rfl hT) .nil))
        · have h6 := hin w (by omega) h5
          simp (maxSteps := 4000000) +contextual only [↓packA0, ↓packA1, ↓packA2, ↓reduceIte, packB0, packB1, packB2, packB3, packB4, pureOp, quietOp, loadOp, quietB, fr0, cellsK, Option.getD_some, Option.getD_none, implies_true, ite_true, ite_false, eq_self, ne_eq, reduceCtorEq, Nat.reduceLT, Nat.reduceLeDiff, Nat.reduceAdd, Nat.reduceMul, Nat.reduceBEq, Nat.reduceEqDiff, Int.reduceToNat, Int.reduceLT, Int.reduceLE, Nat.reduceSub, pl6, tsize_3, tbytes_3, tagg_3, zcells_3, telem_3, tint_3, tnotIface_3, tsize_4, tbytes_4, tagg_4, zcells_4, telem_4, tbool_4, tnotIface_4, tsize_23, tbytes_23, tagg_23, zcells_23, telem_23, tnotIface_23, tsize_45, tbytes_45, tagg_45, zcells_45, telem_45, tnotIface_45, foff_45_0, foff_45_1, foff_45_2, foff_45_3, fplaces_45, tsize_52, tbytes_52, tagg_52, zcells_52, telem_52, tnotIface_52, tsize_53, tbytes_53, tagg_53, zcells_53, telem_53, tint_53, tnotIface_53, ints, bools, patO, a2, a3, a13, a15]
          refine ⟨fun h7 => ⟨fun h8 => by omega, fun h8 => ⟨by omega, .inl ⟨u - (w + 1), by omega, w + 1, rfl, by omega, by omega⟩⟩⟩, fun h7 => absurd h5 (fun hc => by first | exact h7 hc | (rw [hc] at h7; cases h7))⟩
        · refine acalls_fresh alive_c .nil (fun u h0 hz => ⟨_, hz, ?_⟩)
          exact .flat _ rfl
  · replace hD := hD.mono (Q' := fun v h => OFz h v (.tup [.int .i64 0, ints [], .int .i64 220])) fun u h hh => hh.2 hg
    have hw : APure Try.prog 21 [pat rows width st cs] (.bool true) := by
      have := wrong_c rows width st cs (by omega) (by omega)
      rw [decide_eq_false hg] at this
      exact this
    refine (wp6 rfl rfl ?_)
    simp (maxSteps := 4000000) +contextual only [↓packA0, ↓packA1, ↓packA2, ↓reduceIte, packB0, packB1, packB2, packB3, packB4, pureOp, quietOp, loadOp, quietB, fr0, cellsK, Option.getD_some, Option.getD_none, implies_true, ite_true, ite_false, eq_self, ne_eq, reduceCtorEq, Nat.reduceLT, Nat.reduceLeDiff, Nat.reduceAdd, Nat.reduceMul, Nat.reduceBEq, Nat.reduceEqDiff, Int.reduceToNat, Int.reduceLT, Int.reduceLE, Nat.reduceSub, pl6, tsize_3, tbytes_3, tagg_3, zcells_3, telem_3, tint_3, tnotIface_3, tsize_4, tbytes_4, tagg_4, zcells_4, telem_4, tbool_4, tnotIface_4, tsize_23, tbytes_23, tagg_23, zcells_23, telem_23, tnotIface_23, tsize_45, tbytes_45, tagg_45, zcells_45, telem_45, tnotIface_45, foff_45_0, foff_45_1, foff_45_2, foff_45_3, fplaces_45, tsize_52, tbytes_52, tagg_52, zcells_52, telem_52, tnotIface_52, tsize_53, tbytes_53, tagg_53, zcells_53, telem_53, tint_53, tnotIface_53, ints, bools]
    refine acalls_fresh hD ?_ (fun u h0 hz => ⟨_, hz, ?_⟩)
    · exact .cons (.pure _ rfl) .nil
    simp (maxSteps := 4000000) +contextual only [↓packA0, ↓packA1, ↓packA2, ↓reduceIte, packB0, packB1, packB2, packB3, packB4, pureOp, quietOp, loadOp, quietB, fr0, cellsK, Option.getD_some, Option.getD_none, implies_true, ite_true, ite_false, eq_self, ne_eq, reduceCtorEq, Nat.reduceLT, Nat.reduceLeDiff, Nat.reduceAdd, Nat.reduceMul, Nat.reduceBEq, Nat.reduceEqDiff, Int.reduceToNat, Int.reduceLT, Int.reduceLE, Nat.reduceSub, pl6, tsize_3, tbytes_3, tagg_3, zcells_3, telem_3, tint_3, tnotIface_3, tsize_4, tbytes_4, tagg_4, zcells_4, telem_4, tbool_4, tnotIface_4, tsize_23, tbytes_23, tagg_23, zcells_23, telem_23, tnotIface_23, tsize_45, tbytes_45, tagg_45, zcells_45, telem_45, tnotIface_45, foff_45_0, foff_45_1, foff_45_2, foff_45_3, fplaces_45, tsize_52, tbytes_52, tagg_52, zcells_52, telem_52, tnotIface_52, tsize_53, tbytes_53, tagg_53, zcells_53, telem_53, tint_53, tnotIface_53, ints, bools]
    refine acalls_pure hw rfl ?_
    simp (maxSteps := 4000000) +contextual only [↓packA0, ↓packA1, ↓packA2, ↓reduceIte, packB0, packB1, packB2, packB3, packB4, pureOp, quietOp, loadOp, quietB, fr0, cellsK, Option.getD_some, Option.getD_none, implies_true, ite_true, ite_false, eq_self, ne_eq, reduceCtorEq, Nat.reduceLT, Nat.reduceLeDiff, Nat.reduceAdd, Nat.reduceMul, Nat.reduceBEq, Nat.reduceEqDiff, Int.reduceToNat, Int.reduceLT, Int.reduceLE, Nat.reduceSub, pl6, tsize_3, tbytes_3, tagg_3, zcells_3, telem_3, tint_3, tnotIface_3, tsize_4, tbytes_4, tagg_4, zcells_4, telem_4, tbool_4, tnotIface_4, tsize_23, tbytes_23, tagg_23, zcells_23, telem_23, tnotIface_23, tsize_45, tbytes_45, tagg_45, zcells_45, telem_45, tnotIface_45, foff_45_0, foff_45_1, foff_45_2, foff_45_3, fplaces_45, tsize_52, tbytes_52, tagg_52, zcells_52, telem_52, tnotIface_52, tsize_53, tbytes_53, tagg_53, zcells_53, telem_53, tint_53, tnotIface_53, ints, bools]
    refine wp22 rfl rfl ?_
    simp (maxSteps := 4000000) +contextual only [↓packA0, ↓packA1, ↓packA2, ↓reduceIte, packB0, packB1, packB2, packB3, packB4, pureOp, quietOp, loadOp, quietB, fr0, cellsK, Option.getD_some, Option.getD_none, implies_true, ite_true, ite_false, eq_self, ne_eq, reduceCtorEq, Nat.reduceLT, Nat.reduceLeDiff, Nat.reduceAdd, Nat.reduceMul, Nat.reduceBEq, Nat.reduceEqDiff, Int.reduceToNat, Int.reduceLT, Int.reduceLE, Nat.reduceSub, pl22, pl6, tsize_3, tbytes_3, tagg_3, zcells_3, telem_3, tint_3, tnotIface_3, tsize_4, tbytes_4, tagg_4, zcells_4, telem_4, tbool_4, tnotIface_4, tsize_23, tbytes_23, tagg_23, zcells_23, telem_23, tnotIface_23, tsize_45, tbytes_45, tagg_45, zcells_45, telem_45, tnotIface_45, foff_45_0, foff_45_1, foff_45_2, foff_45_3, fplaces_45, tsize_52, tbytes_52, tagg_52, zcells_52, telem_52, tnotIface_52, tsize_53, tbytes_53, tagg_53, zcells_53, telem_53, tint_53, tnotIface_53, ints, bools, Int.cast_ofNat_Int, Int.natCast_zero, Int.natCast_one, Int.reduceAdd, Int.reduceSub, Int.reduceNeg, Int.reduceMul, Int.reduceToNat, Int.reduceLT, Int.reduceLE, Int.reduceEq, Int.reduceBEq, Int.reduceBNe, Nat.reduceSub, Nat.reduceLT, List.getD_cons_zero, List.getD_cons_succ, List.length_singleton, Bool.and_true, Bool.and_false]
    refine acalls_pure hw rfl ?_
    simp (maxSteps := 4000000) +contextual only [↓packA0, ↓packA1, ↓packA2, ↓reduceIte, packB0, packB1, packB2, packB3, packB4, pureOp, quietOp, loadOp, quietB, fr0, cellsK, Option.getD_some, Option.getD_none, implies_true, ite_true, ite_false, eq_self, ne_eq, reduceCtorEq, Nat.reduceLT, Nat.reduceLeDiff, Nat.reduceAdd, Nat.reduceMul, Nat.reduceBEq, Nat.reduceEqDiff, Int.reduceToNat, Int.reduceLT, Int.reduceLE, Nat.reduceSub, pl6, tsize_3, tbytes_3, tagg_3, zcells_3, telem_3, tint_3, tnotIface_3, tsize_4, tbytes_4, tagg_4, zcells_4, telem_4, tbool_4, tnotIface_4, tsize_23, tbytes_23, tagg_23, zcells_23, telem_23, tnotIface_23, tsize_45, tbytes_45, tagg_45, zcells_45, telem_45, tnotIface_45, foff_45_0, foff_45_1, foff_45_2, foff_45_3, fplaces_45, tsize_52, tbytes_52, tagg_52, zcells_52, telem_52, tnotIface_52, tsize_53, tbytes_53, tagg_53, zcells_53, telem_53, tint_53, tnotIface_53, ints, bools]
    refine acalls_fresh alive_c .nil (fun u h0 hz => ⟨_, hz, ?_⟩)
    simp (maxSteps := 4000000) +contextual only [↓packA0, ↓packA1, ↓packA2, ↓reduceIte, packB0, packB1, packB2, packB3, packB4, pureOp, quietOp, loadOp, quietB, fr0, cellsK, Option.getD_some, Option.getD_none, implies_true, ite_true, ite_false, eq_self, ne_eq, reduceCtorEq, Nat.reduceLT, Nat.reduceLeDiff, Nat.reduceAdd, Nat.reduceMul, Nat.reduceBEq, Nat.reduceEqDiff, Int.reduceToNat, Int.reduceLT, Int.reduceLE, Nat.reduceSub, pl6, tsize_3, tbytes_3, tagg_3, zcells_3, telem_3, tint_3, tnotIface_3, tsize_4, tbytes_4, tagg_4, zcells_4, telem_4, tbool_4, tnotIface_4, tsize_23, tbytes_23, tagg_23, zcells_23, telem_23, tnotIface_23, tsize_45, tbytes_45, tagg_45, zcells_45, telem_45, tnotIface_45, foff_45_0, foff_45_1, foff_45_2, foff_45_3, fplaces_45, tsize_52, tbytes_52, tagg_52, zcells_52, telem_52, tnotIface_52, tsize_53, tbytes_53, tagg_53, zcells_53, telem_53, tint_53, tnotIface_53, ints, bools]
    exact .flat _ rfl
end Go.Proofs.Ytgdlkhgfehclpaa
end

section
/- The law OrderWorth, walked. No condition. -/
namespace Go.Proofs.Ytgdlkhgfehclpaa
open Go Go.AL
set_option linter.unusedVariables false
set_option linter.unusedSimpArgs false
set_option maxHeartbeats 4000000 in
set_option maxRecDepth 100000 in
theorem order_small (n : Nat) (st cs : List Int) (hb : st.length < 1000000000) (hb2 : cs.length < 1000000000) (hg : graphP n n st cs) (hn : n ≤ 128) : ACalls Try.prog 24 [.int .i64 3, pat n n st cs, .nils] [] fun v h => OFz h v (.tup [ints (ordOf st cs n), .int .i64 0]) := by
  refine (wp24 rfl rfl ?_)
  simp (maxSteps := 4000000) +contextual only [↓packA0, ↓packA1, ↓packA2, ↓reduceIte, packB0, packB1, packB2, packB3, packB4, pureOp, quietOp, loadOp, quietB, fr0, cellsK, Option.getD_some, Option.getD_none, implies_true, ite_true, ite_false, eq_self, ne_eq, reduceCtorEq, Nat.reduceLT, Nat.reduceLeDiff, Nat.reduceAdd, Nat.reduceMul, Nat.reduceBEq, Nat.reduceEqDiff, Int.reduceToNat, Int.reduceLT, Int.reduceLE, Nat.reduceSub, pl24, tsize_3, tbytes_3, tagg_3, zcells_3, telem_3, tint_3, tnotIface_3, tsize_4, tbytes_4, tagg_4, zcells_4, telem_4, tbool_4, tnotIface_4, tsize_23, tbytes_23, tagg_23, zcells_23, telem_23, tnotIface_23, tsize_43, tbytes_43, tagg_43, zcells_43, telem_43, tint_43, tnotIface_43, tsize_45, tbytes_45, tagg_45, zcells_45, telem_45, tnotIface_45, foff_45_0, foff_45_1, foff_45_2, foff_45_3, fplaces_45, tfun_99, telem_99, tsize_101, tbytes_101, tagg_101, zcells_101, telem_101, tnotIface_101, foff_101_0, fplaces_101, tsize_102, tbytes_102, tagg_102, zcells_102, telem_102, tarr_102, tnotIface_102, ints]
  refine acalls_pure (graph_c n n st cs hb hb2) rfl ?_
  simp (maxSteps := 4000000) +contextual only [↓packA0, ↓packA1, ↓packA2, ↓reduceIte, packB0, packB1, packB2, packB3, packB4, pureOp, quietOp, loadOp, quietB, fr0, cellsK, Option.getD_some, Option.getD_none, implies_true, ite_true, ite_false, eq_self, ne_eq, reduceCtorEq, Nat.reduceLT, Nat.reduceLeDiff, Nat.reduceAdd, Nat.reduceMul, Nat.reduceBEq, Nat.reduceEqDiff, Int.reduceToNat, Int.reduceLT, Int.reduceLE, Nat.reduceSub, pl24, tsize_3, tbytes_3, tagg_3, zcells_3, telem_3, tint_3, tnotIface_3, tsize_4, tbytes_4, tagg_4, zcells_4, telem_4, tbool_4, tnotIface_4, tsize_23, tbytes_23, tagg_23, zcells_23, telem_23, tnotIface_23, tsize_43, tbytes_43, tagg_43, zcells_43, telem_43, tint_43, tnotIface_43, tsize_45, tbytes_45, tagg_45, zcells_45, telem_45, tnotIface_45, foff_45_0, foff_45_1, foff_45_2, foff_45_3, fplaces_45, tfun_99, telem_99, tsize_101, tbytes_101, tagg_101, zcells_101, telem_101, tnotIface_101, foff_101_0, fplaces_101, tsize_102, tbytes_102, tagg_102, zcells_102, telem_102, tarr_102, tnotIface_102, ints, hg, Int.cast_ofNat_Int, Int.natCast_zero, Int.natCast_one, Int.reduceAdd, Int.reduceSub, Int.reduceNeg, Int.reduceMul, Int.reduceToNat, Int.reduceLT, Int.reduceLE, Int.reduceEq, Int.reduceBEq, Int.reduceBNe, Nat.reduceSub, Nat.reduceLT, List.getD_cons_zero, List.getD_cons_succ, List.length_singleton, Bool.and_true, Bool.and_false]
  refine wp52 rfl rfl ?_
  simp (maxSteps := 4000000) +contextual only [↓packA0, ↓packA1, ↓packA2, ↓reduceIte, packB0, packB1, packB2, packB3, packB4, pureOp, quietOp, loadOp, quietB, fr0, cellsK, Option.getD_some, Option.getD_none, implies_true, ite_true, ite_false, eq_self, ne_eq, reduceCtorEq, Nat.reduceLT, Nat.reduceLeDiff, Nat.reduceAdd, Nat.reduceMul, Nat.reduceBEq, Nat.reduceEqDiff, Int.reduceToNat, Int.reduceLT, Int.reduceLE, Nat.reduceSub, pl52, tfun_99, telem_99, tsize_101, tbytes_101, tagg_101, zcells_101, telem_101, tnotIface_101, foff_101_0, fplaces_101, tsize_102, tbytes_102, tagg_102, zcells_102, telem_102, tarr_102, tnotIface_102, pl24, tsize_3, tbytes_3, tagg_3, zcells_3, telem_3, tint_3, tnotIface_3, tsize_4, tbytes_4, tagg_4, zcells_4, telem_4, tbool_4, tnotIface_4, tsize_23, tbytes_23, tagg_23, zcells_23, telem_23, tnotIface_23, tsize_43, tbytes_43, tagg_43, zcells_43, telem_43, tint_43, tnotIface_43, tsize_45, tbytes_45, tagg_45, zcells_45, telem_45, tnotIface_45, foff_45_0, foff_45_1, foff_45_2, foff_45_3, fplaces_45, fpl102, patch, tagg99, tsize99, Int.cast_ofNat_Int, Int.natCast_zero, Int.natCast_one, Int.reduceAdd, Int.reduceSub, Int.reduceNeg, Int.reduceMul, Int.reduceToNat, Int.reduceLT, Int.reduceLE, Int.reduceEq, Int.reduceBEq, Int.reduceBNe, Nat.reduceSub, Nat.reduceLT, List.getD_cons_zero, List.getD_cons_succ, List.length_singleton, Bool.and_true, Bool.and_false]
  refine wp84 rfl rfl ?_
  simp (maxSteps := 4000000) +contextual only [↓packA0, ↓packA1, ↓packA2, ↓reduceIte, packB0, packB1, packB2, packB3, packB4, pureOp, quietOp, loadOp, quietB, fr0, cellsK, Option.getD_some, Option.getD_none, implies_true, ite_true, ite_false, eq_self, ne_eq, reduceCtorEq, Nat.reduceLT, Nat.reduceLeDiff, Nat.reduceAdd, Nat.reduceMul, Nat.reduceBEq, Nat.reduceEqDiff, Int.reduceToNat, Int.reduceLT, Int.reduceLE, Nat.reduceSub, pl84, tsize_3, tbytes_3, tagg_3, zcells_3, telem_3, tint_3, tnotIface_3, tsize_23, tbytes_23, tagg_23, zcells_23, telem_23, tnotIface_23, tsize_45, tbytes_45, tagg_45, zcells_45, telem_45, tnotIface_45, foff_45_0, foff_45_1, foff_45_2, foff_45_3, fplaces_45, pl24, tsize_4, tbytes_4, tagg_4, zcells_4, telem_4, tbool_4, tnotIface_4, tsize_43, tbytes_43, tagg_43, zcells_43, telem_43, tint_43, tnotIface_43, tfun_99, telem_99, tsize_101, tbytes_101, tagg_101, zcells_101, telem_101, tnotIface_101, foff_101_0, fplaces_101, tsize_102, tbytes_102, tagg_102, zcells_102, telem_102, tarr_102, tnotIface_102, Int.cast_ofNat_Int, Int.natCast_zero, Int.natCast_one, Int.reduceAdd, Int.reduceSub, Int.reduceNeg, Int.reduceMul, Int.reduceToNat, Int.reduceLT, Int.reduceLE, Int.reduceEq, Int.reduceBEq, Int.reduceBNe, Nat.reduceSub, Nat.reduceLT, List.getD_cons_zero, List.getD_cons_succ, List.length_singleton, Bool.and_true, Bool.and_false]
  refine peel_at n hn st cs hb hb2 hg fun G o7 o8 hG g7 g8 => ?_
  have g0 := hG 0 (by simp)
  simp only [List.getElem?_cons_zero] at g0
  simp (maxSteps := 4000000) +contextual only [↓packA0, ↓packA1, ↓packA2, ↓reduceIte, packB0, packB1, packB2, packB3, packB4, pureOp, quietOp, loadOp, quietB, fr0, cellsK, Option.getD_some, Option.getD_none, implies_true, ite_true, ite_false, eq_self, ne_eq, reduceCtorEq, Nat.reduceLT, Nat.reduceLeDiff, Nat.reduceAdd, Nat.reduceMul, Nat.reduceBEq, Nat.reduceEqDiff, Int.reduceToNat, Int.reduceLT, Int.reduceLE, Nat.reduceSub, pl84, tsize_3, tbytes_3, tagg_3, zcells_3, telem_3, tint_3, tnotIface_3, tsize_23, tbytes_23, tagg_23, zcells_23, telem_23, tnotIface_23, tsize_45, tbytes_45, tagg_45, zcells_45, telem_45, tnotIface_45, foff_45_0, foff_45_1, foff_45_2, foff_45_3, fplaces_45, pl24, tsize_4, tbytes_4, tagg_4, zcells_4, telem_4, tbool_4, tnotIface_4, tsize_43, tbytes_43, tagg_43, zcells_43, telem_43, tint_43, tnotIface_43, tfun_99, telem_99, tsize_101, tbytes_101, tagg_101, zcells_101, telem_101, tnotIface_101, foff_101_0, fplaces_101, tsize_102, tbytes_102, tagg_102, zcells_102, telem_102, tarr_102, tnotIface_102, g0, Int.cast_ofNat_Int, Int.natCast_zero, Int.natCast_one, Int.reduceAdd, Int.reduceSub, Int.reduceNeg, Int.reduceMul, Int.reduceToNat, Int.reduceLT, Int.reduceLE, Int.reduceEq, Int.reduceBEq, Int.reduceBNe, Nat.reduceSub, Nat.reduceLT, List.getD_cons_zero, List.getD_cons_succ, List.length_singleton, Bool.and_true, Bool.and_false]
  exact .two (ofz_ints (l := ordOf st cs n) g7 ordOf_len.symm) (.flat _ rfl)
set_option maxHeartbeats 8000000 in
set_option maxRecDepth 100000 in
theorem law_worth (rows width : Int) (st cs xs : List Int) (hb : st.length < 10000000) (hb2 : cs.length < 10000000) (hbx : xs.length < 10000000) : ACalls Try.prog 10 [pat rows width st cs, ints xs] [] fun v h => OFz h v (.bool true) := by
  have hD := degen_c rows width st cs (by omega) (by omega)
  by_cases hg : graphP rows width st cs
  · replace hD := hD.mono (Q' := fun v h => OFz h v (.tup [.int .i64 (mxK (coresOf st cs rows.toNat) rows.toNat), ints (coresOf st cs rows.toNat), .int .i64 0])) fun u h hh => hh.1 hg
    have hw : APure Try.prog 21 [pat rows width st cs] (.bool false) := by
      have := wrong_c rows width st cs (by omega) (by omega)
      rw [decide_eq_true hg] at this
      exact this
    obtain ⟨n, rfl, rfl, hn⟩ := graph_sides hg
    rw [Int.toNat_natCast] at hD
    have hCl : (coresOf st cs n).length = n := (pst_len st cs n n).2.2
    have hchk : checkR n (ordOf st cs n) = 0 := by
      have := checkR_ok (xs := ordOf st cs n) (by rw [ordOf_len]; omega) ordOf_ok
      rwa [ordOf_len] at this
    have hinv : invR (ordOf st cs n) = invK (ordOf st cs n) (ordOf st cs n).length := (invR_ok (by rw [ordOf_len]; exact hchk)).1
    have hB := back_c n n st cs (ordOf st cs n) (by omega) (by omega) (by rw [ordOf_len]; omega)
    rw [show backV n n st cs (ordOf st cs n) = .tup [.int .i64 (mxK (coresOf st cs n) n), ints (bkL st cs (invR (ordOf st cs n)) n), .int .i64 0] from (if_pos hg).trans ((if_pos hchk).trans (by rw [Int.toNat_natCast, hinv, worth_eq hg]))] at hB
    have hE := edges_le hg
    have hd0 := (mxK_ge (C := coresOf st cs n) n).1
    have hd1 : mxK (coresOf st cs n) n ≤ 128 := by
      rcases mxK_at (C := coresOf st cs n) n with h | ⟨u, h1, h2⟩
      · omega
      · have := ((core_bounds hg n (Nat.le_refl n)).2 u h1).2
        unfold coresOf at h2 ⊢
        omega
    have hm0 : 0 ≤ 2 * mxK (coresOf st cs n) n * n := Int.mul_nonneg (by omega) (by omega)
    have hm1 : 2 * mxK (coresOf st cs n) n * n ≤ 256 * 128 := Int.mul_le_mul (by omega) (by omega) (by omega) (by omega)
    refine (wp10 rfl rfl ?_)
    simp (maxSteps := 4000000) +contextual only [↓packA0, ↓packA1, ↓packA2, ↓reduceIte, packB0, packB1, packB2, packB3, packB4, pureOp, quietOp, loadOp, quietB, fr0, cellsK, Option.getD_some, Option.getD_none, implies_true, ite_true, ite_false, eq_self, ne_eq, reduceCtorEq, Nat.reduceLT, Nat.reduceLeDiff, Nat.reduceAdd, Nat.reduceMul, Nat.reduceBEq, Nat.reduceEqDiff, Int.reduceToNat, Int.reduceLT, Int.reduceLE, Nat.reduceSub, pl10, tsize_3, tbytes_3, tagg_3, zcells_3, telem_3, tint_3, tnotIface_3, tsize_23, tbytes_23, tagg_23, zcells_23, telem_23, tnotIface_23, tsize_43, tbytes_43, tagg_43, zcells_43, telem_43, tint_43, tnotIface_43, tsize_45, tbytes_45, tagg_45, zcells_45, telem_45, tnotIface_45, foff_45_0, foff_45_1, foff_45_2, foff_45_3, fplaces_45, tsize_53, tbytes_53, tagg_53, zcells_53, telem_53, tint_53, tnotIface_53, ints]
    refine acalls_fresh hD ?_ (fun u h0 hz => ⟨_, hz, ?_⟩)
    · exact .cons (.pure _ rfl) .nil
    simp (maxSteps := 4000000) +contextual only [↓packA0, ↓packA1, ↓packA2, ↓reduceIte, packB0, packB1, packB2, packB3, packB4, pureOp, quietOp, loadOp, quietB, fr0, cellsK, Option.getD_some, Option.getD_none, implies_true, ite_true, ite_false, eq_self, ne_eq, reduceCtorEq, Nat.reduceLT, Nat.reduceLeDiff, Nat.reduceAdd, Nat.reduceMul, Nat.reduceBEq, Nat.reduceEqDiff, Int.reduceToNat, Int.reduceLT, Int.reduceLE, Nat.reduceSub, pl10, tsize_3, tbytes_3, tagg_3, zcells_3, telem_3, tint_3, tnotIface_3, tsize_23, tbytes_23, tagg_23, zcells_23, telem_23, tnotIface_23, tsize_43, tbytes_43, tagg_43, zcells_43, telem_43, tint_43, tnotIface_43, tsize_45, tbytes_45, tagg_45, zcells_45, telem_45, tnotIface_45, foff_45_0, foff_45_1, foff_45_2, foff_45_3, fplaces_45, tsize_53, tbytes_53, tagg_53, zcells_53, telem_53, tint_53, tnotIface_53, ints]
    refine acalls_pure hw rfl ?_
    simp (maxSteps := 4000000) +contextual only [↓packA0, ↓packA1, ↓packA2, ↓reduceIte, packB0, packB1, packB2, packB3, packB4, pureOp, quietOp, loadOp, quietB, fr0, cellsK, Option.getD_some, Option.getD_none, implies_true, ite_true, ite_false, eq_self, ne_eq, reduceCtorEq, Nat.reduceLT, Nat.reduceLeDiff, Nat.reduceAdd, Nat.reduceMul, Nat.reduceBEq, Nat.reduceEqDiff, Int.reduceToNat, Int.reduceLT, Int.reduceLE, Nat.reduceSub, pl10, tsize_3, tbytes_3, tagg_3, zcells_3, telem_3, tint_3, tnotIface_3, tsize_23, tbytes_23, tagg_23, zcells_23, telem_23, tnotIface_23, tsize_43, tbytes_43, tagg_43, zcells_43, telem_43, tint_43, tnotIface_43, tsize_45, tbytes_45, tagg_45, zcells_45, telem_45, tnotIface_45, foff_45_0, foff_45_1, foff_45_2, foff_45_3, fplaces_45, tsize_53, tbytes_53, tagg_53, zcells_53, telem_53, tint_53, tnotIface_53, ints]
    refine acalls_fresh (order_small n st cs (by omega) (by omega) hg hn) ?_ (fun u h0 hz => ⟨_, hz, ?_⟩)
    · exact .cons (.pure _ rfl) (.cons (.pure _ rfl) (.cons (.pure _ rfl) .nil))
    simp (maxSteps := 4000000) +contextual only [↓packA0, ↓packA1, ↓packA2, ↓reduceIte, packB0, packB1, packB2, packB3, packB4, pureOp, quietOp, loadOp, quietB, fr0, cellsK, Option.getD_some, Option.getD_none, implies_true, ite_true, ite_false, eq_self, ne_eq, reduceCtorEq, Nat.reduceLT, Nat.reduceLeDiff, Nat.reduceAdd, Nat.reduceMul, Nat.reduceBEq, Nat.reduceEqDiff, Int.reduceToNat, Int.reduceLT, Int.reduceLE, Nat.reduceSub, pl10, tsize_3, tbytes_3, tagg_3, zcells_3, telem_3, tint_3, tnotIface_3, tsize_23, tbytes_23, tagg_23, zcells_23, telem_23, tnotIface_23, tsize_43, tbytes_43, tagg_43, zcells_43, telem_43, tint_43, tnotIface_43, tsize_45, tbytes_45, tagg_45, zcells_45, telem_45, tnotIface_45, foff_45_0, foff_45_1, foff_45_2, foff_45_3, fplaces_45, tsize_53, tbytes_53, tagg_53, zcells_53, telem_53, tint_53, tnotIface_53, ints]
    refine acalls_fresh hB ?_ (fun u h0 hz => ⟨_, hz, ?_⟩)
    · exact .cons (.pure _ rfl) (.cons (.pure _ rfl) .nil)
    simp (maxSteps := 4000000) +contextual only [↓packA0, ↓packA1, ↓packA2, ↓reduceIte, packB0, packB1, packB2, packB3, packB4, pureOp, quietOp, loadOp, quietB, fr0, cellsK, Option.getD_some, Option.getD_none, implies_true, ite_true, ite_false, eq_self, ne_eq, reduceCtorEq, Nat.reduceLT, Nat.reduceLeDiff, Nat.reduceAdd, Nat.reduceMul, Nat.reduceBEq, Nat.reduceEqDiff, Int.reduceToNat, Int.reduceLT, Int.reduceLE, Nat.reduceSub, pl10, tsize_3, tbytes_3, tagg_3, zcells_3, telem_3, tint_3, tnotIface_3, tsize_23, tbytes_23, tagg_23, zcells_23, telem_23, tnotIface_23, tsize_43, tbytes_43, tagg_43, zcells_43, telem_43, tint_43, tnotIface_43, tsize_45, tbytes_45, tagg_45, zcells_45, telem_45, tnotIface_45, foff_45_0, foff_45_1, foff_45_2, foff_45_3, fplaces_45, tsize_53, tbytes_53, tagg_53, zcells_53, telem_53, tint_53, tnotIface_53, ints]
    refine wp22 rfl rfl ?_
    simp (maxSteps := 4000000) +contextual only [↓packA0, ↓packA1, ↓packA2, ↓reduceIte, packB0, packB1, packB2, packB3, packB4, pureOp, quietOp, loadOp, quietB, fr0, cellsK, Option.getD_some, Option.getD_none, implies_true, ite_true, ite_false, eq_self, ne_eq, reduceCtorEq, Nat.reduceLT, Nat.reduceLeDiff, Nat.reduceAdd, Nat.reduceMul, Nat.reduceBEq, Nat.reduceEqDiff, Int.reduceToNat, Int.reduceLT, Int.reduceLE, Nat.reduceSub, pl22, pl10, tsize_3, tbytes_3, tagg_3, zcells_3, telem_3, tint_3, tnotIface_3, tsize_23, tbytes_23, tagg_23, zcells_23, telem_23, tnotIface_23, tsize_43, tbytes_43, tagg_43, zcells_43, telem_43, tint_43, tnotIface_43, tsize_45, tbytes_45, tagg_45, zcells_45, telem_45, tnotIface_45, foff_45_0, foff_45_1, foff_45_2, foff_45_3, fplaces_45, tsize_53, tbytes_53, tagg_53, zcells_53, telem_53, tint_53, tnotIface_53, ints]
    refine wp22 rfl rfl ?_
    simp (maxSteps := 4000000) +contextual only [↓packA0, ↓packA1, ↓packA2, ↓reduceIte, packB0, packB1, packB2, packB3, packB4, pureOp, quietOp, loadOp, quietB, fr0, cellsK, Option.getD_some, Option.getD_none, implies_true, ite_true, ite_false, eq_self, ne_eq, reduceCtorEq, Nat.reduceLT, Nat.reduceLeDiff, Nat.reduceAdd, Nat.reduceMul, Nat.reduceBEq, Nat.reduceEqDiff, Int.reduceToNat, Int.reduceLT, Int.reduceLE, Nat.reduceSub, pl22, pl10, tsize_3, tbytes_3, tagg_3, zcells_3, telem_3, tint_3, tnotIface_3, tsize_23, tbytes_23, tagg_23, zcells_23, telem_23, tnotIface_23, tsize_43, tbytes_43, tagg_43, zcells_43, telem_43, tint_43, tnotIface_43, tsize_45, tbytes_45, tagg_45, zcells_45, telem_45, tnotIface_45, foff_45_0, foff_45_1, foff_45_2, foff_45_3, fplaces_45, tsize_53, tbytes_53, tagg_53, zcells_53, telem_53, tint_53, tnotIface_53, ints]
    refine wp22 rfl rfl ?_
    simp (maxSteps := 4000000) +contextual only [↓packA0, ↓packA1, ↓packA2, ↓reduceIte, packB0, packB1, packB2, packB3, packB4, pureOp, quietOp, loadOp, quietB, fr0, cellsK, Option.getD_some, Option.getD_none, implies_true, ite_true, ite_false, eq_self, ne_eq, reduceCtorEq, Nat.reduceLT, Nat.reduceLeDiff, Nat.reduceAdd, Nat.reduceMul, Nat.reduceBEq, Nat.reduceEqDiff, Int.reduceToNat, Int.reduceLT, Int.reduceLE, Nat.reduceSub, pl22, pl10, tsize_3, tbytes_3, tagg_3, zcells_3, telem_3, tint_3, tnotIface_3, tsize_23, tbytes_23, tagg_23, zcells_23, telem_23, tnotIface_23, tsize_43, tbytes_43, tagg_43, zcells_43, telem_43, tint_43, tnotIface_43, tsize_45, tbytes_45, tagg_45, zcells_45, telem_45, tnotIface_45, foff_45_0, foff_45_1, foff_45_2, foff_45_3, fplaces_45, tsize_53, tbytes_53, tagg_53, zcells_53, telem_53, tint_53, tnotIface_53, ints]
    have hB2 := back_c n n st cs xs (by omega) (by omega) (by omega)
    obtain ⟨ba, bl, be, hV, hVw⟩ : ∃ a l e, backV n n st cs xs = .tup [.int .i64 a, ints l, .int .i64 e] ∧ (e = 0 → mxK (coresOf st cs n) n ≤ a) := by
      by_cases h1 : checkR n xs = 0
      · obtain ⟨_, _, hxl, hord⟩ := checkR_zero h1
        rw [← hxl] at hord
        have hinv2 : invR xs = invK xs xs.length := (invR_ok (by rw [hxl]; exact h1)).1
        exact ⟨_, _, _, (if_pos hg).trans (if_pos h1), fun _ => by rw [Int.toNat_natCast, hinv2]; exact worth_ge hg (by omega) hord⟩
      · exact ⟨_, _, _, (if_pos hg).trans (if_neg h1), fun h => absurd h (by omega)⟩
    rw [hV] at hB2
    generalize hdd : mxK (coresOf st cs n) n = d at *
    generalize hmm : 2 * d * (n : Int) = dn at *
    refine ⟨fun hc => absurd (by omega) hc, fun _ => ⟨by omega, by omega, fun hc => absurd hc (by omega), fun _ => ?_⟩⟩
    refine LoopK.intro (fun m a h => ∃ (i : Nat), m = n - i ∧ i ≤ n ∧ a 1 = ints xs ∧ a 2 = .op 0 4 0 0 ∧ a 5 = .int .i64 d ∧ a 6 = ints (coresOf st cs n) ∧ a 13 = .int .i64 (mxK (coresOf st cs n) i) ∧ a 14 = .int .i64 i ∧ h = [patO n n st cs]) n ⟨0, rfl, Nat.zero_le _, ?_⟩ ?_
    · simp (maxSteps := 4000000) only [↓packA0, ↓packA1, ↓packA2, ↓reduceIte, packB0, packB1, packB2, packB3, packB4, pureOp, quietOp, loadOp, quietB, fr0, cellsK, Option.getD_some, Option.getD_none, implies_true, ite_true, ite_false, eq_self, ne_eq, reduceCtorEq, Nat.reduceLT, Nat.reduceLeDiff, Nat.reduceAdd, Nat.reduceMul, Nat.reduceBEq, Nat.reduceEqDiff, Int.reduceToNat, Int.reduceLT, Int.reduceLE, Nat.reduceSub, pl10, tsize_3, tbytes_3, tagg_3, zcells_3, telem_3, tint_3, tnotIface_3, tsize_23, tbytes_23, tagg_23, zcells_23, telem_23, tnotIface_23, tsize_43, tbytes_43, tagg_43, zcells_43, telem_43, tint_43, tnotIface_43, tsize_45, tbytes_45, tagg_45, zcells_45, telem_45, tnotIface_45, foff_45_0, foff_45_1, foff_45_2, foff_45_3, fplaces_45, tsize_53, tbytes_53, tagg_53, zcells_53, telem_53, tint_53, tnotIface_53, ints, patO, mxK, Int.natCast_zero]
    rintro m a h ⟨i, rfl, hi, a1, a2, a5, a6, a13, a14, rfl⟩
    simp (maxSteps := 4000000) +contextual only [↓packA0, ↓packA1, ↓packA2, ↓reduceIte, packB0, packB1, packB2, packB3, packB4, pureOp, quietOp, loadOp, quietB, fr0, cellsK, Option.getD_some, Option.getD_none, implies_true, ite_true, ite_false, eq_self, ne_eq, reduceCtorEq, Nat.reduceLT, Nat.reduceLeDiff, Nat.reduceAdd, Nat.reduceMul, Nat.reduceBEq, Nat.reduceEqDiff, Int.reduceToNat, Int.reduceLT, Int.reduceLE, Nat.reduceSub, pl10, tsize_3, tbytes_3, tagg_3, zcells_3, telem_3, tint_3, tnotIface_3, tsize_23, tbytes_23, tagg_23, zcells_23, telem_23, tnotIface_23, tsize_43, tbytes_43, tagg_43, zcells_43, telem_43, tint_43, tnotIface_43, tsize_45, tbytes_45, tagg_45, zcells_45, telem_45, tnotIface_45, foff_45_0, foff_45_1, foff_45_2, foff_45_3, fplaces_45, tsize_53, tbytes_53, tagg_53, zcells_53, telem_53, tint_53, tnotIface_53, ints, patO, a1, a2, a5, a6, a13, a14]
    refine ⟨fun h2 => ⟨by omega, by omega, fun h3 => ⟨by omega, by omega, by omega, .inl ⟨n - (i + 1), by omega, i + 1, rfl, by omega, ?_, by omega⟩⟩, fun h3 => ⟨by omega, .inl ⟨n - (i + 1), by omega, i + 1, rfl, by omega, ?_, by omega⟩⟩⟩, fun h2 => ?_⟩
    · simp only [mxK]; omega
    · simp only [mxK]; omega
    · obtain rfl : i = n := by omega
      rw [hdd] at a13
      refine acalls_fresh hB2 ?_ (fun u h0 hz => ⟨_, hz, ?_⟩)
      · exact .cons (.pure _ rfl) (.cons (.pure _ rfl) .nil)
      simp (maxSteps := 4000000) +contextual only [↓packA0, ↓packA1, ↓packA2, ↓reduceIte, packB0, packB1, packB2, packB3, packB4, pureOp, quietOp, loadOp, quietB, fr0, cellsK, Option.getD_some, Option.getD_none, implies_true, ite_true, ite_false, eq_self, ne_eq, reduceCtorEq, Nat.reduceLT, Nat.reduceLeDiff, Nat.reduceAdd, Nat.reduceMul, Nat.reduceBEq, Nat.reduceEqDiff, Int.reduceToNat, Int.reduceLT, Int.reduceLE, Nat.reduceSub, pl10, tsize_3, tbytes_3, tagg_3, zcells_3, telem_3, tint_3, tnotIface_3, tsize_23, tbytes_23, tagg_23, zcells_23, telem_23, tnotIface_23, tsize_43, tbytes_43, tagg_43, zcells_43, telem_43, tint_43, tnotIface_43, tsize_45, tbytes_45, tagg_45, zcells_45, telem_45, tnotIface_45, foff_45_0, foff_45_1, foff_45_2, foff_45_3, fplaces_45, tsize_53, tbytes_53, tagg_53, zcells_53, telem_53, tint_53, tnotIface_53, ints, patO, a1, a2, a5, a6, a13, a14]
      refine wp22 rfl rfl ?_
      simp (maxSteps := 4000000) +contextual only [↓packA0, ↓packA1, ↓packA2, ↓reduceIte, packB0, packB1, packB2, packB3, packB4, pureOp, quietOp, loadOp, quietB, fr0, cellsK, Option.getD_some, Option.getD_none, implies_true, ite_true, ite_false, eq_self, ne_eq, reduceCtorEq, Nat.reduceLT, Nat.reduceLeDiff, Nat.reduceAdd, Nat.reduceMul, Nat.reduceBEq, Nat.reduceEqDiff, Int.reduceToNat, Int.reduceLT, Int.reduceLE, Nat.reduceSub, pl22, pl10, tsize_3, tbytes_3, tagg_3, zcells_3, telem_3, tint_3, tnotIface_3, tsize_23, tbytes_23, tagg_23, zcells_23, telem_23, tnotIface_23, tsize_43, tbytes_43, tagg_43, zcells_43, telem_43, tint_43, tnotIface_43, tsize_45, tbytes_45, tagg_45, zcells_45, telem_45, tnotIface_45, foff_45_0, foff_45_1, foff_45_2, foff_45_3, fplaces_45, tsize_53, tbytes_53, tagg_53, zcells_53, telem_53, tint_53, tnotIface_53, ints, patO, a1, a2, a5, a6, a13, a14]
      refine ⟨fun h3 => ?_, fun h3 => ⟨fun h4 => ?_, fun h4 => absurd (hVw (by omega)) h4⟩⟩
      · refine acalls_fresh alive_c .nil (fun u h0 hz => ⟨_, hz, ?_⟩)
        simp (maxSteps := 4000000) +contextual only [↓packA0, ↓packA1, ↓packA2, ↓reduceIte, packB0, packB1, packB2, packB3, packB4, pureOp, quietOp, loadOp, quietB, fr0, cellsK, Option.getD_some, Option.getD_none, implies_true, ite_true, ite_false, eq_self, ne_eq, reduceCtorEq, Nat.reduceLT, Nat.reduceLeDiff, Nat.reduceAdd, Nat.reduceMul, Nat.reduceBEq, Nat.reduceEqDiff, Int.reduceToNat, Int.reduceLT, Int.reduceLE, Nat.reduceSub, pl10, tsize_3, tbytes_3, tagg_3, zcells_3, telem_3, tint_3, tnotIface_3, tsize_23, tbytes_23, tagg_23, zcells_23, telem_23, tnotIface_23, tsize_43, tbytes_43, tagg_43, zcells_43, telem_43, tint_43, tnotIface_43, tsize_45, tbytes_45, tagg_45, zcells_45, telem_45, tnotIface_45, foff_45_0, foff_45_1, foff_45_2, foff_45_3, fplaces_45, tsize_53, tbytes_53, tagg_53, zcells_53, telem_53, tint_53, tnotIface_53]
        first
          | exact OFz.flat _ rfl
          | exact ⟨fun _ => OFz.flat _ rfl, fun hc => absurd (hVw (by omega)) hc⟩
          | (refine ⟨fun _ => OFz.flat _ rfl, fun hc => absurd h4 hc⟩)
          | (refine ⟨fun hc => ⟨fun _ => OFz.flat _ rfl, fun _ => absurd hc h3⟩, fun _ => OFz.flat _ rfl⟩)
      · refine acalls_fresh alive_c .nil (fun u h0 hz => ⟨_, hz, ?_⟩)
        simp (maxSteps := 4000000) +contextual only [↓packA0, ↓packA1, ↓packA2, ↓reduceIte, packB0, packB1, packB2, packB3, packB4, pureOp, quietOp, loadOp, quietB, fr0, cellsK, Option.getD_some, Option.getD_none, implies_true, ite_true, ite_false, eq_self, ne_eq, reduceCtorEq, Nat.reduceLT, Nat.reduceLeDiff, Nat.reduceAdd, Nat.reduceMul, Nat.reduceBEq, Nat.reduceEqDiff, Int.reduceToNat, Int.reduceLT, Int.reduceLE, Nat.reduceSub, pl10, tsize_3, tbytes_3, tagg_3, zcells_3, telem_3, tint_3, tnotIface_3, tsize_23, tbytes_23, tagg_23, zcells_23, telem_23, tnotIface_23, tsize_43, tbytes_43, tagg_43, zcells_43, telem_43, tint_43, tnotIface_43, tsize_45, tbytes_45, tagg_45, zcells_45, telem_45, tnotIface_45, foff_45_0, foff_45_1, foff_45_2, foff_45_3, fplaces_45, tsize_53, tbytes_53, tagg_53, zcells_53, telem_53, tint_53, tnotIface_53]
        first
          | exact OFz.flat _ rfl
          | exact ⟨fun _ => OFz.flat _ rfl, fun hc => absurd (hVw (by omega)) hc⟩
          | (refine ⟨fun _ => OFz.flat _ rfl, fun hc => absurd h4 hc⟩)
          | (refine ⟨fun hc => ⟨fun _ => OFz.flat _ rfl, fun _ => absurd hc h3⟩, fun _ => OFz.flat _ rfl⟩)
  · replace hD := hD.mono (Q' := fun v h => OFz h v (.tup [.int .i64 0, ints [], .int .i64 220])) fun u h hh => hh.2 hg
    have hw : APure Try.prog 21 [pat rows width st cs] (.bool true) := by
      have := wrong_c rows width st cs (by omega) (by omega)
      rw [decide_eq_false hg] at this
      exact this
    refine (wp10 rfl rfl ?_)
    simp (maxSteps := 4000000) +contextual only [↓packA0, ↓packA1, ↓packA2, ↓reduceIte, packB0, packB1, packB2, packB3, packB4, pureOp, quietOp, loadOp, quietB, fr0, cellsK, Option.getD_some, Option.getD_none, implies_true, ite_true, ite_false, eq_self, ne_eq, reduceCtorEq, Nat.reduceLT, Nat.reduceLeDiff, Nat.reduceAdd, Nat.reduceMul, Nat.reduceBEq, Nat.reduceEqDiff, Int.reduceToNat, Int.reduceLT, Int.reduceLE, Nat.reduceSub, pl10, tsize_3, tbytes_3, tagg_3, zcells_3, telem_3, tint_3, tnotIface_3, tsize_23, tbytes_23, tagg_23, zcells_23, telem_23, tnotIface_23, tsize_43, tbytes_43, tagg_43, zcells_43, telem_43, tint_43, tnotIface_43, tsize_45, tbytes_45, tagg_45, zcells_45, telem_45, tnotIface_45, foff_45_0, foff_45_1, foff_45_2, foff_45_3, fplaces_45, tsize_53, tbytes_53, tagg_53, zcells_53, telem_53, tint_53, tnotIface_53, ints]
    refine acalls_fresh hD ?_ (fun u h0 hz => ⟨_, hz, ?_⟩)
    · exact .cons (.pure _ rfl) .nil
    simp (maxSteps := 4000000) +contextual only [↓packA0, ↓packA1, ↓packA2, ↓reduceIte, packB0, packB1, packB2, packB3, packB4, pureOp, quietOp, loadOp, quietB, fr0, cellsK, Option.getD_some, Option.getD_none, implies_true, ite_true, ite_false, eq_self, ne_eq, reduceCtorEq, Nat.reduceLT, Nat.reduceLeDiff, Nat.reduceAdd, Nat.reduceMul, Nat.reduceBEq, Nat.reduceEqDiff, Int.reduceToNat, Int.reduceLT, Int.reduceLE, Nat.reduceSub, pl10, tsize_3, tbytes_3, tagg_3, zcells_3, telem_3, tint_3, tnotIface_3, tsize_23, tbytes_23, tagg_23, zcells_23, telem_23, tnotIface_23, tsize_43, tbytes_43, tagg_43, zcells_43, telem_43, tint_43, tnotIface_43, tsize_45, tbytes_45, tagg_45, zcells_45, telem_45, tnotIface_45, foff_45_0, foff_45_1, foff_45_2, foff_45_3, fplaces_45, tsize_53, tbytes_53, tagg_53, zcells_53, telem_53, tint_53, tnotIface_53, ints]
    refine acalls_pure hw rfl ?_
    simp (maxSteps := 4000000) +contextual only [↓packA0, ↓packA1, ↓packA2, ↓reduceIte, packB0, packB1, packB2, packB3, packB4, pureOp, quietOp, loadOp, quietB, fr0, cellsK, Option.getD_some, Option.getD_none, implies_true, ite_true, ite_false, eq_self, ne_eq, reduceCtorEq, Nat.reduceLT, Nat.reduceLeDiff, Nat.reduceAdd, Nat.reduceMul, Nat.reduceBEq, Nat.reduceEqDiff, Int.reduceToNat, Int.reduceLT, Int.reduceLE, Nat.reduceSub, pl10, tsize_3, tbytes_3, tagg_3, zcells_3, telem_3, tint_3, tnotIface_3, tsize_23, tbytes_23, tagg_23, zcells_23, telem_23, tnotIface_23, tsize_43, tbytes_43, tagg_43, zcells_43, telem_43, tint_43, tnotIface_43, tsize_45, tbytes_45, tagg_45, zcells_45, telem_45, tnotIface_45, foff_45_0, foff_45_1, foff_45_2, foff_45_3, fplaces_45, tsize_53, tbytes_53, tagg_53, zcells_53, telem_53, tint_53, tnotIface_53, ints]
    refine wp22 rfl rfl ?_
    simp (maxSteps := 4000000) +contextual only [↓packA0, ↓packA1, ↓packA2, ↓reduceIte, packB0, packB1, packB2, packB3, packB4, pureOp, quietOp, loadOp, quietB, fr0, cellsK, Option.getD_some, Option.getD_none, implies_true, ite_true, ite_false, eq_self, ne_eq, reduceCtorEq, Nat.reduceLT, Nat.reduceLeDiff, Nat.reduceAdd, Nat.reduceMul, Nat.reduceBEq, Nat.reduceEqDiff, Int.reduceToNat, Int.reduceLT, Int.reduceLE, Nat.reduceSub, pl22, pl10, tsize_3, tbytes_3, tagg_3, zcells_3, telem_3, tint_3, tnotIface_3, tsize_23, tbytes_23, tagg_23, zcells_23, telem_23, tnotIface_23, tsize_43, tbytes_43, tagg_43, zcells_43, telem_43, tint_43, tnotIface_43, tsize_45, tbytes_45, tagg_45, zcells_45, telem_45, tnotIface_45, foff_45_0, foff_45_1, foff_45_2, foff_45_3, fplaces_45, tsize_53, tbytes_53, tagg_53, zcells_53, telem_53, tint_53, tnotIface_53, ints, Int.cast_ofNat_Int, Int.natCast_zero, Int.natCast_one, Int.reduceAdd, Int.reduceSub, Int.reduceNeg, Int.reduceMul, Int.reduceToNat, Int.reduceLT, Int.reduceLE, Int.reduceEq, Int.reduceBEq, Int.reduceBNe, Nat.reduceSub, Nat.reduceLT, List.getD_cons_zero, List.getD_cons_succ, List.length_singleton, Bool.and_true, Bool.and_false]
    refine acalls_fresh alive_c .nil (fun u h0 hz => ⟨_, hz, ?_⟩)
    simp (maxSteps := 4000000) +contextual only [↓packA0, ↓packA1, ↓packA2, ↓reduceIte, packB0, packB1, packB2, packB3, packB4, pureOp, quietOp, loadOp, quietB, fr0, cellsK, Option.getD_some, Option.getD_none, implies_true, ite_true, ite_false, eq_self, ne_eq, reduceCtorEq, Nat.reduceLT, Nat.reduceLeDiff, Nat.reduceAdd, Nat.reduceMul, Nat.reduceBEq, Nat.reduceEqDiff, Int.reduceToNat, Int.reduceLT, Int.reduceLE, Nat.reduceSub, pl10, tsize_3, tbytes_3, tagg_3, zcells_3, telem_3, tint_3, tnotIface_3, tsize_23, tbytes_23, tagg_23, zcells_23, telem_23, tnotIface_23, tsize_43, tbytes_43, tagg_43, zcells_43, telem_43, tint_43, tnotIface_43, tsize_45, tbytes_45, tagg_45, zcells_45, telem_45, tnotIface_45, foff_45_0, foff_45_1, foff_45_2, foff_45_3, fplaces_45, tsize_53, tbytes_53, tagg_53, zcells_53, telem_53, tint_53, tnotIface_53]
    exact .flat _ rfl
end Go.Proofs.Ytgdlkhgfehclpaa
end

section
/- Order of every kind, both; the law OrderOrders, walked. No condition. -/
namespace Go.Proofs.Ytgdlkhgfehclpaa
open Go Go.AL
set_option linter.unusedVariables false
set_option linter.unusedSimpArgs false
/-- The order of a kind, and the error's number. -/
noncomputable def ordL (kd rows width : Int) (st cs xs : List Int) : List Int :=
  if graphP rows width st cs then (if kd = 1 then natL rows.toNat else if kd = 2 then lgL st cs rows.toNat else if kd = 3 then ordOf st cs rows.toNat else if kd = 4 then incL st cs rows.toNat else if kd = 5 then scrL rows xs else []) else []
noncomputable def ordE (kd rows width : Int) (st cs xs : List Int) : Int :=
  if graphP rows width st cs then (if kd = 1 then 0 else if kd = 2 then 0 else if kd = 3 then 0 else if kd = 4 then 0 else if kd = 5 then scrE rows xs else 221) else 220
noncomputable def ordV (kd rows width : Int) (st cs xs : List Int) : AV := .tup [ints (ordL kd rows width st cs xs), .int .i64 (ordE kd rows width st cs xs)]
set_option maxHeartbeats 4000000 in
set_option maxRecDepth 100000 in
theorem order_c (kd rows width : Int) (st cs xs : List Int) (hb : st.length < 1000000000) (hb2 : cs.length < 1000000000) (hbx : xs.length < 1000000000) : ACalls Try.prog 24 [.int .i64 kd, pat rows width st cs, ints xs] [] fun v h => OFz h v (ordV kd rows width st cs xs) := by
  refine (wp24 rfl rfl ?_)
  simp (maxSteps := 4000000) only [↓packA0, ↓packA1, ↓packA2, ↓reduceIte, packB0, packB1, packB2, packB3, packB4, pureOp, quietOp, loadOp, quietB, fr0, cellsK, Option.getD_some, Option.getD_none, implies_true, ite_true, ite_false, eq_self, ne_eq, reduceCtorEq, Nat.reduceLT, Nat.reduceLeDiff, Nat.reduceAdd, Nat.reduceMul, Nat.reduceBEq, Nat.reduceEqDiff, Int.reduceToNat, Int.reduceLT, Int.reduceLE, Nat.reduceSub, pl24, tsize_3, tbytes_3, tagg_3, zcells_3, telem_3, tint_3, tnotIface_3, tsize_4, tbytes_4, tagg_4, zcells_4, telem_4, tbool_4, tnotIface_4, tsize_23, tbytes_23, tagg_23, zcells_23, telem_23, tnotIface_23, tsize_43, tbytes_43, tagg_43, zcells_43, telem_43, tint_43, tnotIface_43, tsize_45, tbytes_45, tagg_45, zcells_45, telem_45, tnotIface_45, foff_45_0, foff_45_1, foff_45_2, foff_45_3, fplaces_45, tfun_99, telem_99, tsize_101, tbytes_101, tagg_101, zcells_101, telem_101, tnotIface_101, foff_101_0, fplaces_101, tsize_102, tbytes_102, tagg_102, zcells_102, telem_102, tarr_102, tnotIface_102, ints]
  refine acalls_pure (graph_c rows width st cs hb hb2) rfl ?_
  by_cases hg : graphP rows width st cs
  · obtain ⟨n, rfl, rfl, hn⟩ := graph_sides hg
    have hm := hg.1.1
    by_cases c1 : kd < 1
    · have e : ordV kd n n st cs xs = .tup [ints [], .int .i64 221] := by
        unfold ordV ordL ordE
        simp only [if_pos hg, if_neg (show ¬ kd = 1 by omega), if_neg (show ¬ kd = 2 by omega), if_neg (show ¬ kd = 3 by omega), if_neg (show ¬ kd = 4 by omega), if_neg (show ¬ kd = 5 by omega)]
      rw [e]
      simp (maxSteps := 4000000) only [↓packA0, ↓packA1, ↓packA2, ↓reduceIte, packB0, packB1, packB2, packB3, packB4, pureOp, quietOp, loadOp, quietB, fr0, cellsK, Option.getD_some, Option.getD_none, implies_true, ite_true, ite_false, eq_self, ne_eq, reduceCtorEq, Nat.reduceLT, Nat.reduceLeDiff, Nat.reduceAdd, Nat.reduceMul, Nat.reduceBEq, Nat.reduceEqDiff, Int.reduceToNat, Int.reduceLT, Int.reduceLE, Nat.reduceSub, pl24, tsize_3, tbytes_3, tagg_3, zcells_3, telem_3, tint_3, tnotIface_3, tsize_4, tbytes_4, tagg_4, zcells_4, telem_4, tbool_4, tnotIface_4, tsize_23, tbytes_23, tagg_23, zcells_23, telem_23, tnotIface_23, tsize_43, tbytes_43, tagg_43, zcells_43, telem_43, tint_43, tnotIface_43, tsize_45, tbytes_45, tagg_45, zcells_45, telem_45, tnotIface_45, foff_45_0, foff_45_1, foff_45_2, foff_45_3, fplaces_45, tfun_99, telem_99, tsize_101, tbytes_101, tagg_101, zcells_101, telem_101, tnotIface_101, foff_101_0, fplaces_101, tsize_102, tbytes_102, tagg_102, zcells_102, telem_102, tarr_102, tnotIface_102, ints, hg, c1]
      exact .two (.nils 1) (.flat _ rfl)
    by_cases c5 : kd > 5
    · have e : ordV kd n n st cs xs = .tup [ints [], .int .i64 221] := by
        unfold ordV ordL ordE
        simp only [if_pos hg, if_neg (show ¬ kd = 1 by omega), if_neg (show ¬ kd = 2 by omega), if_neg (show ¬ kd = 3 by omega), if_neg (show ¬ kd = 4 by omega), if_neg (show ¬ kd = 5 by omega)]
      rw [e]
      simp (maxSteps := 4000000) only [↓packA0, ↓packA1, ↓packA2, ↓reduceIte, packB0, packB1, packB2, packB3, packB4, pureOp, quietOp, loadOp, quietB, fr0, cellsK, Option.getD_some, Option.getD_none, implies_true, ite_true, ite_false, eq_self, ne_eq, reduceCtorEq, Nat.reduceLT, Nat.reduceLeDiff, Nat.reduceAdd, Nat.reduceMul, Nat.reduceBEq, Nat.reduceEqDiff, Int.reduceToNat, Int.reduceLT, Int.reduceLE, Nat.reduceSub, pl24, tsize_3, tbytes_3, tagg_3, zcells_3, telem_3, tint_3, tnotIface_3, tsize_4, tbytes_4, tagg_4, zcells_4, telem_4, tbool_4, tnotIface_4, tsize_23, tbytes_23, tagg_23, zcells_23, telem_23, tnotIface_23, tsize_43, tbytes_43, tagg_43, zcells_43, telem_43, tint_43, tnotIface_43, tsize_45, tbytes_45, tagg_45, zcells_45, telem_45, tnotIface_45, foff_45_0, foff_45_1, foff_45_2, foff_45_3, fplaces_45, tfun_99, telem_99, tsize_101, tbytes_101, tagg_101, zcells_101, telem_101, tnotIface_101, foff_101_0, fplaces_101, tsize_102, tbytes_102, tagg_102, zcells_102, telem_102, tarr_102, tnotIface_102, ints, hg, c1, c5]
      exact .two (.nils 1) (.flat _ rfl)
    have hk : kd = 1 ∨ kd = 2 ∨ kd = 3 ∨ kd = 4 ∨ kd = 5 := by omega
    have he : ∀ d l e, d = kd → ordL d n n st cs xs = l → ordE d n n st cs xs = e → ordV kd n n st cs xs = .tup [ints l, .int .i64 e] := fun d l e h1 h2 h3 => by rw [← h2, ← h3, h1]; rfl
    rcases hk with rfl | rfl | rfl | rfl | rfl
    · rw [he 1 (natL n) 0 rfl (by unfold ordL; simp [hg]) (by unfold ordE; simp [hg])]
      simp (maxSteps := 4000000) only [↓packA0, ↓packA1, ↓packA2, ↓reduceIte, packB0, packB1, packB2, packB3, packB4, pureOp, quietOp, loadOp, quietB, fr0, cellsK, Option.getD_some, Option.getD_none, implies_true, ite_true, ite_false, eq_self, ne_eq, reduceCtorEq, Nat.reduceLT, Nat.reduceLeDiff, Nat.reduceAdd, Nat.reduceMul, Nat.reduceBEq, Nat.reduceEqDiff, Int.reduceToNat, Int.reduceLT, Int.reduceLE, Nat.reduceSub, pl24, tsize_3, tbytes_3, tagg_3, zcells_3, telem_3, tint_3, tnotIface_3, tsize_4, tbytes_4, tagg_4, zcells_4, telem_4, tbool_4, tnotIface_4, tsize_23, tbytes_23, tagg_23, zcells_23, telem_23, tnotIface_23, tsize_43, tbytes_43, tagg_43, zcells_43, telem_43, tint_43, tnotIface_43, tsize_45, tbytes_45, tagg_45, zcells_45, telem_45, tnotIface_45, foff_45_0, foff_45_1, foff_45_2, foff_45_3, fplaces_45, tfun_99, telem_99, tsize_101, tbytes_101, tagg_101, zcells_101, telem_101, tnotIface_101, foff_101_0, fplaces_101, tsize_102, tbytes_102, tagg_102, zcells_102, telem_102, tarr_102, tnotIface_102, ints, hg, Int.cast_ofNat_Int, Int.natCast_zero, Int.natCast_one, Int.reduceAdd, Int.reduceSub, Int.reduceNeg, Int.reduceMul, Int.reduceToNat, Int.reduceLT, Int.reduceLE, Int.reduceEq, Int.reduceBEq, Int.reduceBNe, Nat.reduceSub, Nat.reduceLT, List.getD_cons_zero, List.getD_cons_succ, List.length_singleton, Bool.and_true, Bool.and_false]
      refine wp52 rfl rfl ?_
      simp (maxSteps := 4000000) only [↓packA0, ↓packA1, ↓packA2, ↓reduceIte, packB0, packB1, packB2, packB3, packB4, pureOp, quietOp, loadOp, quietB, fr0, cellsK, Option.getD_some, Option.getD_none, implies_true, ite_true, ite_false, eq_self, ne_eq, reduceCtorEq, Nat.reduceLT, Nat.reduceLeDiff, Nat.reduceAdd, Nat.reduceMul, Nat.reduceBEq, Nat.reduceEqDiff, Int.reduceToNat, Int.reduceLT, Int.reduceLE, Nat.reduceSub, pl52, tfun_99, telem_99, tsize_101, tbytes_101, tagg_101, zcells_101, telem_101, tnotIface_101, foff_101_0, fplaces_101, tsize_102, tbytes_102, tagg_102, zcells_102, telem_102, tarr_102, tnotIface_102, pl24, tsize_3, tbytes_3, tagg_3, zcells_3, telem_3, tint_3, tnotIface_3, tsize_4, tbytes_4, tagg_4, zcells_4, telem_4, tbool_4, tnotIface_4, tsize_23, tbytes_23, tagg_23, zcells_23, telem_23, tnotIface_23, tsize_43, tbytes_43, tagg_43, zcells_43, telem_43, tint_43, tnotIface_43, tsize_45, tbytes_45, tagg_45, zcells_45, telem_45, tnotIface_45, foff_45_0, foff_45_1, foff_45_2, foff_45_3, fplaces_45, fpl102, patch, tagg99, tsize99, Int.cast_ofNat_Int, Int.natCast_zero, Int.natCast_one, Int.reduceAdd, Int.reduceSub, Int.reduceNeg, Int.reduceMul, Int.reduceToNat, Int.reduceLT, Int.reduceLE, Int.reduceEq, Int.reduceBEq, Int.reduceBNe, Nat.reduceSub, Nat.reduceLT, List.getD_cons_zero, List.getD_cons_succ, List.length_singleton, Bool.and_true, Bool.and_false]
      refine nat_at n hn st cs (F := fun _ => False) (fun i hi => hi.elim) (fun x G _ _ hbx => ?_)
      simp (maxSteps := 4000000) only [↓packA0, ↓packA1, ↓packA2, ↓reduceIte, packB0, packB1, packB2, packB3, packB4, pureOp, quietOp, loadOp, quietB, fr0, cellsK, Option.getD_some, Option.getD_none, implies_true, ite_true, ite_false, eq_self, ne_eq, reduceCtorEq, Nat.reduceLT, Nat.reduceLeDiff, Nat.reduceAdd, Nat.reduceMul, Nat.reduceBEq, Nat.reduceEqDiff, Int.reduceToNat, Int.reduceLT, Int.reduceLE, Nat.reduceSub, pl24, tsize_3, tbytes_3, tagg_3, zcells_3, telem_3, tint_3, tnotIface_3, tsize_4, tbytes_4, tagg_4, zcells_4, telem_4, tbool_4, tnotIface_4, tsize_23, tbytes_23, tagg_23, zcells_23, telem_23, tnotIface_23, tsize_43, tbytes_43, tagg_43, zcells_43, telem_43, tint_43, tnotIface_43, tsize_45, tbytes_45, tagg_45, zcells_45, telem_45, tnotIface_45, foff_45_0, foff_45_1, foff_45_2, foff_45_3, fplaces_45, tfun_99, telem_99, tsize_101, tbytes_101, tagg_101, zcells_101, telem_101, tnotIface_101, foff_101_0, fplaces_101, tsize_102, tbytes_102, tagg_102, zcells_102, telem_102, tarr_102, tnotIface_102, Int.cast_ofNat_Int, Int.natCast_zero, Int.natCast_one, Int.reduceAdd, Int.reduceSub, Int.reduceNeg, Int.reduceMul, Int.reduceToNat, Int.reduceLT, Int.reduceLE, Int.reduceEq, Int.reduceBEq, Int.reduceBNe, Nat.reduceSub, Nat.reduceLT, List.getD_cons_zero, List.getD_cons_succ, List.length_singleton, Bool.and_true, Bool.and_false]
      exact .two (bc_ofz hbx) (.flat _ rfl)
    · rw [he 2 (lgL st cs n) 0 rfl (by unfold ordL; simp [hg]) (by unfold ordE; simp [hg])]
      simp (maxSteps := 4000000) only [↓packA0, ↓packA1, ↓packA2, ↓reduceIte, packB0, packB1, packB2, packB3, packB4, pureOp, quietOp, loadOp, quietB, fr0, cellsK, Option.getD_some, Option.getD_none, implies_true, ite_true, ite_false, eq_self, ne_eq, reduceCtorEq, Nat.reduceLT, Nat.reduceLeDiff, Nat.reduceAdd, Nat.reduceMul, Nat.reduceBEq, Nat.reduceEqDiff, Int.reduceToNat, Int.reduceLT, Int.reduceLE, Nat.reduceSub, pl24, tsize_3, tbytes_3, tagg_3, zcells_3, telem_3, tint_3, tnotIface_3, tsize_4, tbytes_4, tagg_4, zcells_4, telem_4, tbool_4, tnotIface_4, tsize_23, tbytes_23, tagg_23, zcells_23, telem_23, tnotIface_23, tsize_43, tbytes_43, tagg_43, zcells_43, telem_43, tint_43, tnotIface_43, tsize_45, tbytes_45, tagg_45, zcells_45, telem_45, tnotIface_45, foff_45_0, foff_45_1, foff_45_2, foff_45_3, fplaces_45, tfun_99, telem_99, tsize_101, tbytes_101, tagg_101, zcells_101, telem_101, tnotIface_101, foff_101_0, fplaces_101, tsize_102, tbytes_102, tagg_102, zcells_102, telem_102, tarr_102, tnotIface_102, ints, hg, Int.cast_ofNat_Int, Int.natCast_zero, Int.natCast_one, Int.reduceAdd, Int.reduceSub, Int.reduceNeg, Int.reduceMul, Int.reduceToNat, Int.reduceLT, Int.reduceLE, Int.reduceEq, Int.reduceBEq, Int.reduceBNe, Nat.reduceSub, Nat.reduceLT, List.getD_cons_zero, List.getD_cons_succ, List.length_singleton, Bool.and_true, Bool.and_false]
      refine wp52 rfl rfl ?_
      simp (maxSteps := 4000000) only [↓packA0, ↓packA1, ↓packA2, ↓reduceIte, packB0, packB1, packB2, packB3, packB4, pureOp, quietOp, loadOp, quietB, fr0, cellsK, Option.getD_some, Option.getD_none, implies_true, ite_true, ite_false, eq_self, ne_eq, reduceCtorEq, Nat.reduceLT, Nat.reduceLeDiff, Nat.reduceAdd, Nat.reduceMul, Nat.reduceBEq, Nat.reduceEqDiff, Int.reduceToNat, Int.reduceLT, Int.reduceLE, Nat.reduceSub, pl52, tfun_99, telem_99, tsize_101, tbytes_101, tagg_101, zcells_101, telem_101, tnotIface_101, foff_101_0, fplaces_101, tsize_102, tbytes_102, tagg_102, zcells_102, telem_102, tarr_102, tnotIface_102, pl24, tsize_3, tbytes_3, tagg_3, zcells_3, telem_3, tint_3, tnotIface_3, tsize_4, tbytes_4, tagg_4, zcells_4, telem_4, tbool_4, tnotIface_4, tsize_23, tbytes_23, tagg_23, zcells_23, telem_23, tnotIface_23, tsize_43, tbytes_43, tagg_43, zcells_43, telem_43, tint_43, tnotIface_43, tsize_45, tbytes_45, tagg_45, zcells_45, telem_45, tnotIface_45, foff_45_0, foff_45_1, foff_45_2, foff_45_3, fplaces_45, fpl102, patch, tagg99, tsize99, Int.cast_ofNat_Int, Int.natCast_zero, Int.natCast_one, Int.reduceAdd, Int.reduceSub, Int.reduceNeg, Int.reduceMul, Int.reduceToNat, Int.reduceLT, Int.reduceLE, Int.reduceEq, Int.reduceBEq, Int.reduceBNe, Nat.reduceSub, Nat.reduceLT, List.getD_cons_zero, List.getD_cons_succ, List.length_singleton, Bool.and_true, Bool.and_false]
      refine lar_at n hn st cs hb hb2 hm (fun x G hbx => ?_)
      simp (maxSteps := 4000000) only [↓packA0, ↓packA1, ↓packA2, ↓reduceIte, packB0, packB1, packB2, packB3, packB4, pureOp, quietOp, loadOp, quietB, fr0, cellsK, Option.getD_some, Option.getD_none, implies_true, ite_true, ite_false, eq_self, ne_eq, reduceCtorEq, Nat.reduceLT, Nat.reduceLeDiff, Nat.reduceAdd, Nat.reduceMul, Nat.reduceBEq, Nat.reduceEqDiff, Int.reduceToNat, Int.reduceLT, Int.reduceLE, Nat.reduceSub, pl24, tsize_3, tbytes_3, tagg_3, zcells_3, telem_3, tint_3, tnotIface_3, tsize_4, tbytes_4, tagg_4, zcells_4, telem_4, tbool_4, tnotIface_4, tsize_23, tbytes_23, tagg_23, zcells_23, telem_23, tnotIface_23, tsize_43, tbytes_43, tagg_43, zcells_43, telem_43, tint_43, tnotIface_43, tsize_45, tbytes_45, tagg_45, zcells_45, telem_45, tnotIface_45, foff_45_0, foff_45_1, foff_45_2, foff_45_3, fplaces_45, tfun_99, telem_99, tsize_101, tbytes_101, tagg_101, zcells_101, telem_101, tnotIface_101, foff_101_0, fplaces_101, tsize_102, tbytes_102, tagg_102, zcells_102, telem_102, tarr_102, tnotIface_102, Int.cast_ofNat_Int, Int.natCast_zero, Int.natCast_one, Int.reduceAdd, Int.reduceSub, Int.reduceNeg, Int.reduceMul, Int.reduceToNat, Int.reduceLT, Int.reduceLE, Int.reduceEq, Int.reduceBEq, Int.reduceBNe, Nat.reduceSub, Nat.reduceLT, List.getD_cons_zero, List.getD_cons_succ, List.length_singleton, Bool.and_true, Bool.and_false]
      exact .two (bc_ofz hbx) (.flat _ rfl)
    · rw [he 3 (ordOf st cs n) 0 rfl (by unfold ordL; simp [hg]) (by unfold ordE; simp [hg])]
      simp (maxSteps := 4000000) only [↓packA0, ↓packA1, ↓packA2, ↓reduceIte, packB0, packB1, packB2, packB3, packB4, pureOp, quietOp, loadOp, quietB, fr0, cellsK, Option.getD_some, Option.getD_none, implies_true, ite_true, ite_false, eq_self, ne_eq, reduceCtorEq, Nat.reduceLT, Nat.reduceLeDiff, Nat.reduceAdd, Nat.reduceMul, Nat.reduceBEq, Nat.reduceEqDiff, Int.reduceToNat, Int.reduceLT, Int.reduceLE, Nat.reduceSub, pl24, tsize_3, tbytes_3, tagg_3, zcells_3, telem_3, tint_3, tnotIface_3, tsize_4, tbytes_4, tagg_4, zcells_4, telem_4, tbool_4, tnotIface_4, tsize_23, tbytes_23, tagg_23, zcells_23, telem_23, tnotIface_23, tsize_43, tbytes_43, tagg_43, zcells_43, telem_43, tint_43, tnotIface_43, tsize_45, tbytes_45, tagg_45, zcells_45, telem_45, tnotIface_45, foff_45_0, foff_45_1, foff_45_2, foff_45_3, fplaces_45, tfun_99, telem_99, tsize_101, tbytes_101, tagg_101, zcells_101, telem_101, tnotIface_101, foff_101_0, fplaces_101, tsize_102, tbytes_102, tagg_102, zcells_102, telem_102, tarr_102, tnotIface_102, ints, hg, Int.cast_ofNat_Int, Int.natCast_zero, Int.natCast_one, Int.reduceAdd, Int.reduceSub, Int.reduceNeg, Int.reduceMul, Int.reduceToNat, Int.reduceLT, Int.reduceLE, Int.reduceEq, Int.reduceBEq, Int.reduceBNe, Nat.reduceSub, Nat.reduceLT, List.getD_cons_zero, List.getD_cons_succ, List.length_singleton, Bool.and_true, Bool.and_false]
      refine wp52 rfl rfl ?_
      simp (maxSteps := 4000000) only [↓packA0, ↓packA1, ↓packA2, ↓reduceIte, packB0, packB1, packB2, packB3, packB4, pureOp, quietOp, loadOp, quietB, fr0, cellsK, Option.getD_some, Option.getD_none, implies_true, ite_true, ite_false, eq_self, ne_eq, reduceCtorEq, Nat.reduceLT, Nat.reduceLeDiff, Nat.reduceAdd, Nat.reduceMul, Nat.reduceBEq, Nat.reduceEqDiff, Int.reduceToNat, Int.reduceLT, Int.reduceLE, Nat.reduceSub, pl52, tfun_99, telem_99, tsize_101, tbytes_101, tagg_101, zcells_101, telem_101, tnotIface_101, foff_101_0, fplaces_101, tsize_102, tbytes_102, tagg_102, zcells_102, telem_102, tarr_102, tnotIface_102, pl24, tsize_3, tbytes_3, tagg_3, zcells_3, telem_3, tint_3, tnotIface_3, tsize_4, tbytes_4, tagg_4, zcells_4, telem_4, tbool_4, tnotIface_4, tsize_23, tbytes_23, tagg_23, zcells_23, telem_23, tnotIface_23, tsize_43, tbytes_43, tagg_43, zcells_43, telem_43, tint_43, tnotIface_43, tsize_45, tbytes_45, tagg_45, zcells_45, telem_45, tnotIface_45, foff_45_0, foff_45_1, foff_45_2, foff_45_3, fplaces_45, fpl102, patch, tagg99, tsize99, Int.cast_ofNat_Int, Int.natCast_zero, Int.natCast_one, Int.reduceAdd, Int.reduceSub, Int.reduceNeg, Int.reduceMul, Int.reduceToNat, Int.reduceLT, Int.reduceLE, Int.reduceEq, Int.reduceBEq, Int.reduceBNe, Nat.reduceSub, Nat.reduceLT, List.getD_cons_zero, List.getD_cons_succ, List.length_singleton, Bool.and_true, Bool.and_false]
      refine wp84 rfl rfl ?_
      simp (maxSteps := 4000000) +contextual only [↓packA0, ↓packA1, ↓packA2, ↓reduceIte, packB0, packB1, packB2, packB3, packB4, pureOp, quietOp, loadOp, quietB, fr0, cellsK, Option.getD_some, Option.getD_none, implies_true, ite_true, ite_false, eq_self, ne_eq, reduceCtorEq, Nat.reduceLT, Nat.reduceLeDiff, Nat.reduceAdd, Nat.reduceMul, Nat.reduceBEq, Nat.reduceEqDiff, Int.reduceToNat, Int.reduceLT, Int.reduceLE, Nat.reduceSub, pl84, tsize_3, tbytes_3, tagg_3, zcells_3, telem_3, tint_3, tnotIface_3, tsize_23, tbytes_23, tagg_23, zcells_23, telem_23, tnotIface_23, tsize_45, tbytes_45, tagg_45, zcells_45, telem_45, tnotIface_45, foff_45_0, foff_45_1, foff_45_2, foff_45_3, fplaces_45, pl24, tsize_4, tbytes_4, tagg_4, zcells_4, telem_4, tbool_4, tnotIface_4, tsize_43, tbytes_43, tagg_43, zcells_43, telem_43, tint_43, tnotIface_43, tfun_99, telem_99, tsize_101, tbytes_101, tagg_101, zcells_101, telem_101, tnotIface_101, foff_101_0, fplaces_101, tsize_102, tbytes_102, tagg_102, zcells_102, telem_102, tarr_102, tnotIface_102, Int.cast_ofNat_Int, Int.natCast_zero, Int.natCast_one, Int.reduceAdd, Int.reduceSub, Int.reduceNeg, Int.reduceMul, Int.reduceToNat, Int.reduceLT, Int.reduceLE, Int.reduceEq, Int.reduceBEq, Int.reduceBNe, Nat.reduceSub, Nat.reduceLT, List.getD_cons_zero, List.getD_cons_succ, List.length_singleton, Bool.and_true, Bool.and_false]
      refine peel_at n hn st cs hb hb2 hg fun G o7 o8 hG g7 g8 => ?_
      have g0 := hG 0 (by simp)
      simp only [List.getElem?_cons_zero] at g0
      simp (maxSteps := 4000000) +contextual only [↓packA0, ↓packA1, ↓packA2, ↓reduceIte, packB0, packB1, packB2, packB3, packB4, pureOp, quietOp, loadOp, quietB, fr0, cellsK, Option.getD_some, Option.getD_none, implies_true, ite_true, ite_false, eq_self, ne_eq, reduceCtorEq, Nat.reduceLT, Nat.reduceLeDiff, Nat.reduceAdd, Nat.reduceMul, Nat.reduceBEq, Nat.reduceEqDiff, Int.reduceToNat, Int.reduceLT, Int.reduceLE, Nat.reduceSub, pl84, tsize_3, tbytes_3, tagg_3, zcells_3, telem_3, tint_3, tnotIface_3, tsize_23, tbytes_23, tagg_23, zcells_23, telem_23, tnotIface_23, tsize_45, tbytes_45, tagg_45, zcells_45, telem_45, tnotIface_45, foff_45_0, foff_45_1, foff_45_2, foff_45_3, fplaces_45, pl24, tsize_4, tbytes_4, tagg_4, zcells_4, telem_4, tbool_4, tnotIface_4, tsize_43, tbytes_43, tagg_43, zcells_43, telem_43, tint_43, tnotIface_43, tfun_99, telem_99, tsize_101, tbytes_101, tagg_101, zcells_101, telem_101, tnotIface_101, foff_101_0, fplaces_101, tsize_102, tbytes_102, tagg_102, zcells_102, telem_102, tarr_102, tnotIface_102, g0, Int.cast_ofNat_Int, Int.natCast_zero, Int.natCast_one, Int.reduceAdd, Int.reduceSub, Int.reduceNeg, Int.reduceMul, Int.reduceToNat, Int.reduceLT, Int.reduceLE, Int.reduceEq, Int.reduceBEq, Int.reduceBNe, Nat.reduceSub, Nat.reduceLT, List.getD_cons_zero, List.getD_cons_succ, List.length_singleton, Bool.and_true, Bool.and_false]
      exact .two (ofz_ints (l := ordOf st cs n) g7 ordOf_len.symm) (.flat _ rfl)
    · rw [he 4 (incL st cs n) 0 rfl (by unfold ordL; simp [hg]) (by unfold ordE; simp [hg])]
      simp (maxSteps := 4000000) only [↓packA0, ↓packA1, ↓packA2, ↓reduceIte, packB0, packB1, packB2, packB3, packB4, pureOp, quietOp, loadOp, quietB, fr0, cellsK, Option.getD_some, Option.getD_none, implies_true, ite_true, ite_false, eq_self, ne_eq, reduceCtorEq, Nat.reduceLT, Nat.reduceLeDiff, Nat.reduceAdd, Nat.reduceMul, Nat.reduceBEq, Nat.reduceEqDiff, Int.reduceToNat, Int.reduceLT, Int.reduceLE, Nat.reduceSub, pl24, tsize_3, tbytes_3, tagg_3, zcells_3, telem_3, tint_3, tnotIface_3, tsize_4, tbytes_4, tagg_4, zcells_4, telem_4, tbool_4, tnotIface_4, tsize_23, tbytes_23, tagg_23, zcells_23, telem_23, tnotIface_23, tsize_43, tbytes_43, tagg_43, zcells_43, telem_43, tint_43, tnotIface_43, tsize_45, tbytes_45, tagg_45, zcells_45, telem_45, tnotIface_45, foff_45_0, foff_45_1, foff_45_2, foff_45_3, fplaces_45, tfun_99, telem_99, tsize_101, tbytes_101, tagg_101, zcells_101, telem_101, tnotIface_101, foff_101_0, fplaces_101, tsize_102, tbytes_102, tagg_102, zcells_102, telem_102, tarr_102, tnotIface_102, ints, hg, Int.cast_ofNat_Int, Int.natCast_zero, Int.natCast_one, Int.reduceAdd, Int.reduceSub, Int.reduceNeg, Int.reduceMul, Int.reduceToNat, Int.reduceLT, Int.reduceLE, Int.reduceEq, Int.reduceBEq, Int.reduceBNe, Nat.reduceSub, Nat.reduceLT, List.getD_cons_zero, List.getD_cons_succ, List.length_singleton, Bool.and_true, Bool.and_false]
      refine wp52 rfl rfl ?_
      simp (maxSteps := 4000000) only [↓packA0, ↓packA1, ↓packA2, ↓reduceIte, packB0, packB1, packB2, packB3, packB4, pureOp, quietOp, loadOp, quietB, fr0, cellsK, Option.getD_some, Option.getD_none, implies_true, ite_true, ite_false, eq_self, ne_eq, reduceCtorEq, Nat.reduceLT, Nat.reduceLeDiff, Nat.reduceAdd, Nat.reduceMul, Nat.reduceBEq, Nat.reduceEqDiff, Int.reduceToNat, Int.reduceLT, Int.reduceLE, Nat.reduceSub, pl52, tfun_99, telem_99, tsize_101, tbytes_101, tagg_101, zcells_101, telem_101, tnotIface_101, foff_101_0, fplaces_101, tsize_102, tbytes_102, tagg_102, zcells_102, telem_102, tarr_102, tnotIface_102, pl24, tsize_3, tbytes_3, tagg_3, zcells_3, telem_3, tint_3, tnotIface_3, tsize_4, tbytes_4, tagg_4, zcells_4, telem_4, tbool_4, tnotIface_4, tsize_23, tbytes_23, tagg_23, zcells_23, telem_23, tnotIface_23, tsize_43, tbytes_43, tagg_43, zcells_43, telem_43, tint_43, tnotIface_43, tsize_45, tbytes_45, tagg_45, zcells_45, telem_45, tnotIface_45, foff_45_0, foff_45_1, foff_45_2, foff_45_3, fplaces_45, fpl102, patch, tagg99, tsize99, Int.cast_ofNat_Int, Int.natCast_zero, Int.natCast_one, Int.reduceAdd, Int.reduceSub, Int.reduceNeg, Int.reduceMul, Int.reduceToNat, Int.reduceLT, Int.reduceLE, Int.reduceEq, Int.reduceBEq, Int.reduceBNe, Nat.reduceSub, Nat.reduceLT, List.getD_cons_zero, List.getD_cons_succ, List.length_singleton, Bool.and_true, Bool.and_false]
      refine acalls_ofz (inc_c n hn st cs hb hb2 hg (ints xs)) rfl (fun u G hz _ => ?_)
      obtain ⟨x, y, rfl, hx, hy⟩ := ofz_pair hz
      obtain rfl := ofz_int hy
      simp (maxSteps := 4000000) only [↓packA0, ↓packA1, ↓packA2, ↓reduceIte, packB0, packB1, packB2, packB3, packB4, pureOp, quietOp, loadOp, quietB, fr0, cellsK, Option.getD_some, Option.getD_none, implies_true, ite_true, ite_false, eq_self, ne_eq, reduceCtorEq, Nat.reduceLT, Nat.reduceLeDiff, Nat.reduceAdd, Nat.reduceMul, Nat.reduceBEq, Nat.reduceEqDiff, Int.reduceToNat, Int.reduceLT, Int.reduceLE, Nat.reduceSub, pl24, tsize_3, tbytes_3, tagg_3, zcells_3, telem_3, tint_3, tnotIface_3, tsize_4, tbytes_4, tagg_4, zcells_4, telem_4, tbool_4, tnotIface_4, tsize_23, tbytes_23, tagg_23, zcells_23, telem_23, tnotIface_23, tsize_43, tbytes_43, tagg_43, zcells_43, telem_43, tint_43, tnotIface_43, tsize_45, tbytes_45, tagg_45, zcells_45, telem_45, tnotIface_45, foff_45_0, foff_45_1, foff_45_2, foff_45_3, fplaces_45, tfun_99, telem_99, tsize_101, tbytes_101, tagg_101, zcells_101, telem_101, tnotIface_101, foff_101_0, fplaces_101, tsize_102, tbytes_102, tagg_102, zcells_102, telem_102, tarr_102, tnotIface_102, Int.cast_ofNat_Int, Int.natCast_zero, Int.natCast_one, Int.reduceAdd, Int.reduceSub, Int.reduceNeg, Int.reduceMul, Int.reduceToNat, Int.reduceLT, Int.reduceLE, Int.reduceEq, Int.reduceBEq, Int.reduceBNe, Nat.reduceSub, Nat.reduceLT, List.getD_cons_zero, List.getD_cons_succ, List.length_singleton, Bool.and_true, Bool.and_false]
      exact .two hx (.flat _ rfl)
    · rw [he 5 (scrL n xs) (scrE n xs) rfl (by unfold ordL; simp [hg]) (by unfold ordE; simp [hg])]
      simp (maxSteps := 4000000) only [↓packA0, ↓packA1, ↓packA2, ↓reduceIte, packB0, packB1, packB2, packB3, packB4, pureOp, quietOp, loadOp, quietB, fr0, cellsK, Option.getD_some, Option.getD_none, implies_true, ite_true, ite_false, eq_self, ne_eq, reduceCtorEq, Nat.reduceLT, Nat.reduceLeDiff, Nat.reduceAdd, Nat.reduceMul, Nat.reduceBEq, Nat.reduceEqDiff, Int.reduceToNat, Int.reduceLT, Int.reduceLE, Nat.reduceSub, pl24, tsize_3, tbytes_3, tagg_3, zcells_3, telem_3, tint_3, tnotIface_3, tsize_4, tbytes_4, tagg_4, zcells_4, telem_4, tbool_4, tnotIface_4, tsize_23, tbytes_23, tagg_23, zcells_23, telem_23, tnotIface_23, tsize_43, tbytes_43, tagg_43, zcells_43, telem_43, tint_43, tnotIface_43, tsize_45, tbytes_45, tagg_45, zcells_45, telem_45, tnotIface_45, foff_45_0, foff_45_1, foff_45_2, foff_45_3, fplaces_45, tfun_99, telem_99, tsize_101, tbytes_101, tagg_101, zcells_101, telem_101, tnotIface_101, foff_101_0, fplaces_101, tsize_102, tbytes_102, tagg_102, zcells_102, telem_102, tarr_102, tnotIface_102, ints, hg, Int.cast_ofNat_Int, Int.natCast_zero, Int.natCast_one, Int.reduceAdd, Int.reduceSub, Int.reduceNeg, Int.reduceMul, Int.reduceToNat, Int.reduceLT, Int.reduceLE, Int.reduceEq, Int.reduceBEq, Int.reduceBNe, Nat.reduceSub, Nat.reduceLT, List.getD_cons_zero, List.getD_cons_succ, List.length_singleton, Bool.and_true, Bool.and_false]
      refine wp52 rfl rfl ?_
      simp (maxSteps := 4000000) only [↓packA0, ↓packA1, ↓packA2, ↓reduceIte, packB0, packB1, packB2, packB3, packB4, pureOp, quietOp, loadOp, quietB, fr0, cellsK, Option.getD_some, Option.getD_none, implies_true, ite_true, ite_false, eq_self, ne_eq, reduceCtorEq, Nat.reduceLT, Nat.reduceLeDiff, Nat.reduceAdd, Nat.reduceMul, Nat.reduceBEq, Nat.reduceEqDiff, Int.reduceToNat, Int.reduceLT, Int.reduceLE, Nat.reduceSub, pl52, tfun_99, telem_99, tsize_101, tbytes_101, tagg_101, zcells_101, telem_101, tnotIface_101, foff_101_0, fplaces_101, tsize_102, tbytes_102, tagg_102, zcells_102, telem_102, tarr_102, tnotIface_102, pl24, tsize_3, tbytes_3, tagg_3, zcells_3, telem_3, tint_3, tnotIface_3, tsize_4, tbytes_4, tagg_4, zcells_4, telem_4, tbool_4, tnotIface_4, tsize_23, tbytes_23, tagg_23, zcells_23, telem_23, tnotIface_23, tsize_43, tbytes_43, tagg_43, zcells_43, telem_43, tint_43, tnotIface_43, tsize_45, tbytes_45, tagg_45, zcells_45, telem_45, tnotIface_45, foff_45_0, foff_45_1, foff_45_2, foff_45_3, fplaces_45, fpl102, patch, tagg99, tsize99, Int.cast_ofNat_Int, Int.natCast_zero, Int.natCast_one, Int.reduceAdd, Int.reduceSub, Int.reduceNeg, Int.reduceMul, Int.reduceToNat, Int.reduceLT, Int.reduceLE, Int.reduceEq, Int.reduceBEq, Int.reduceBNe, Nat.reduceSub, Nat.reduceLT, List.getD_cons_zero, List.getD_cons_succ, List.length_singleton, Bool.and_true, Bool.and_false]
      refine acalls_ofz (scr_c n hn st cs xs hbx) rfl (fun u G hz _ => ?_)
      obtain ⟨x, y, rfl, hx, hy⟩ := ofz_pair hz
      obtain rfl := ofz_int hy
      simp (maxSteps := 4000000) only [↓packA0, ↓packA1, ↓packA2, ↓reduceIte, packB0, packB1, packB2, packB3, packB4, pureOp, quietOp, loadOp, quietB, fr0, cellsK, Option.getD_some, Option.getD_none, implies_true, ite_true, ite_false, eq_self, ne_eq, reduceCtorEq, Nat.reduceLT, Nat.reduceLeDiff, Nat.reduceAdd, Nat.reduceMul, Nat.reduceBEq, Nat.reduceEqDiff, Int.reduceToNat, Int.reduceLT, Int.reduceLE, Nat.reduceSub, pl24, tsize_3, tbytes_3, tagg_3, zcells_3, telem_3, tint_3, tnotIface_3, tsize_4, tbytes_4, tagg_4, zcells_4, telem_4, tbool_4, tnotIface_4, tsize_23, tbytes_23, tagg_23, zcells_23, telem_23, tnotIface_23, tsize_43, tbytes_43, tagg_43, zcells_43, telem_43, tint_43, tnotIface_43, tsize_45, tbytes_45, tagg_45, zcells_45, telem_45, tnotIface_45, foff_45_0, foff_45_1, foff_45_2, foff_45_3, fplaces_45, tfun_99, telem_99, tsize_101, tbytes_101, tagg_101, zcells_101, telem_101, tnotIface_101, foff_101_0, fplaces_101, tsize_102, tbytes_102, tagg_102, zcells_102, telem_102, tarr_102, tnotIface_102, Int.cast_ofNat_Int, Int.natCast_zero, Int.natCast_one, Int.reduceAdd, Int.reduceSub, Int.reduceNeg, Int.reduceMul, Int.reduceToNat, Int.reduceLT, Int.reduceLE, Int.reduceEq, Int.reduceBEq, Int.reduceBNe, Nat.reduceSub, Nat.reduceLT, List.getD_cons_zero, List.getD_cons_succ, List.length_singleton, Bool.and_true, Bool.and_false]
      exact .two hx (.flat _ rfl)
  · have e : ordV kd rows width st cs xs = .tup [ints [], .int .i64 220] := by
      unfold ordV ordL ordE
      rw [if_neg hg, if_neg hg]
    rw [e]
    simp (maxSteps := 4000000) only [↓packA0, ↓packA1, ↓packA2, ↓reduceIte, packB0, packB1, packB2, packB3, packB4, pureOp, quietOp, loadOp, quietB, fr0, cellsK, Option.getD_some, Option.getD_none, implies_true, ite_true, ite_false, eq_self, ne_eq, reduceCtorEq, Nat.reduceLT, Nat.reduceLeDiff, Nat.reduceAdd, Nat.reduceMul, Nat.reduceBEq, Nat.reduceEqDiff, Int.reduceToNat, Int.reduceLT, Int.reduceLE, Nat.reduceSub, pl24, tsize_3, tbytes_3, tagg_3, zcells_3, telem_3, tint_3, tnotIface_3, tsize_4, tbytes_4, tagg_4, zcells_4, telem_4, tbool_4, tnotIface_4, tsize_23, tbytes_23, tagg_23, zcells_23, telem_23, tnotIface_23, tsize_43, tbytes_43, tagg_43, zcells_43, telem_43, tint_43, tnotIface_43, tsize_45, tbytes_45, tagg_45, zcells_45, telem_45, tnotIface_45, foff_45_0, foff_45_1, foff_45_2, foff_45_3, fplaces_45, tfun_99, telem_99, tsize_101, tbytes_101, tagg_101, zcells_101, telem_101, tnotIface_101, foff_101_0, fplaces_101, tsize_102, tbytes_102, tagg_102, zcells_102, telem_102, tarr_102, tnotIface_102, ints, hg]
    exact .two (.nils 1) (.flat _ rfl)
end Go.Proofs.Ytgdlkhgfehclpaa
end

section
/- What each kind promises of its order: plain part. No condition. -/
namespace Go.Proofs.Ytgdlkhgfehclpaa
open Go Go.AL
set_option linter.unusedVariables false
set_option linter.unusedSimpArgs false
theorem ordOK_of {n : Int} {l : List Int} (nd : l.Nodup) (hr : ∀ x, x ∈ l → 0 ≤ x ∧ x < n) : ordOK n l := fun i hi => by
  have hg : ∀ j (h : j < l.length), l.getD j default = l[j] := fun j h => by rw [List.getD_eq_getElem?_getD, List.getElem?_eq_getElem h]; rfl
  have h1 := hr _ (List.getElem_mem hi)
  refine ⟨by rw [hg i hi]; exact h1.1, by rw [hg i hi]; exact h1.2, fun j hj e => ?_⟩
  rw [hg i hi, hg j (by omega)] at e
  exact List.pairwise_iff_getElem.1 nd j i (by omega) hi hj e
structure KindOK (st cs : List Int) (n : Nat) (kd : Int) (l : List Int) : Prop where
  len : l.length = n
  ord : ordOK n l
  k1 : kd = 1 → ∀ i, i < n → l.getD i default = i
  k2 : kd = 2 → ∀ i, 0 < i → i < n → ltD (degI st cs) (l.getD (i - 1) default) (l.getD i default)
  k3 : kd = 3 → ∀ (T : List Bool) i, i < n → T.length = n → seenOK l (i + 1) T → ∀ k, k < i → cnt st cs T (l.getD i default).toNat ≤ cnt st cs T (l.getD k default).toNat
  k4 : kd = 4 → ∀ (T : List Bool) i, i < n → T.length = n → seenOK l i T → ∀ k, i < k → k < n → cnt st cs T (l.getD k default).toNat ≤ cnt st cs T (l.getD i default).toNat
theorem ist_get {st cs : List Int} {n : Nat} : ∀ {k : Nat}, k ≤ n → ∀ i, i < k → (ist st cs n k).L.getD i default = bI st cs (ist st cs n i).P n
  | 0, _, i, h => absurd h (Nat.not_lt_zero _)
  | k + 1, hk, i, h => by
    have hl := (ist_ok st cs n k (by omega)).ll
    simp only [ist]
    by_cases e : i = k
    · subst e
      rw [List.getD_eq_getElem?_getD, List.getElem?_append_right (by omega), hl, Nat.sub_self]; rfl
    · rw [List.getD_eq_getElem?_getD, List.getElem?_append_left (by omega), ← List.getD_eq_getElem?_getD]
      exact ist_get (by omega) i (by omega)
theorem ist_mem {st cs : List Int} {n i u : Nat} (hi : i ≤ n) (hu : u < n) : (ist st cs n i).P.getD u false = true ↔ ∃ j, j < i ∧ (incL st cs n).getD j default = u := by
  have h := ist_ok st cs n i hi
  rw [h.mem u hu]
  constructor
  · intro hm
    obtain ⟨j, hj, e⟩ := mem_getD.1 hm
    rw [h.ll] at hj
    exact ⟨j, hj, by unfold incL; rw [ist_get (Nat.le_refl n) j (by omega), ← ist_get hi j hj]; exact e⟩
  · rintro ⟨j, hj, e⟩
    unfold incL at e
    rw [ist_get (Nat.le_refl n) j (by omega), ← ist_get hi j hj] at e
    exact mem_getD.2 ⟨j, by rw [h.ll]; exact hj, e⟩
theorem kinds_ok {st cs : List Int} {n : Nat} (hg : graphP n n st cs) {kd : Int} {l : List Int} (hk : (kd = 1 ∧ l = natL n) ∨ (kd = 2 ∧ l = lgL st cs n) ∨ (kd = 3 ∧ l = ordOf st cs n) ∨ (kd = 4 ∧ l = incL st cs n)) : KindOK st cs n kd l := by
  have hm := hg.1.1
  rcases hk with ⟨rfl, rfl⟩ | ⟨rfl, rfl⟩ | ⟨rfl, rfl⟩ | ⟨rfl, rfl⟩
  · exact ⟨natL_len, ordOK_of nodup_natL (fun x hx => natL_mem.1 hx), fun _ i hi => natL_get hi, by simp, by simp, by simp⟩
  · have hl := lgL_ok hm
    have hll := lg_len hl
    refine ⟨hll, ordOK_of hl.nodup (fun x hx => (hl.mem x).1 hx), by simp, fun _ i h0 hi => ?_, by simp, by simp⟩
    have := List.pairwise_iff_getElem.1 hl.pw (i - 1) i (by omega) (by omega) (by omega)
    rw [← gv_eq, ← gv_eq] at this
    exact this
  · refine ⟨ordOf_len, by have := ordOf_ok (st := st) (cs := cs) (n := n); rwa [ordOf_len] at this, by simp, by simp, fun _ T i hi hT hs k hki => ?_, by simp⟩
    have hi1 : n - 1 - i < n := by omega
    have hb := bv_best (st := st) (cs := cs) hi1
    have hsT : ∀ u, u < n → (T.getD u false = true ↔ (pst st cs n (n - 1 - i)).S.getD u false = true) := fun u hu => by
      rw [S_iff (by omega) hu]
      refine (hs u (by omega)).trans ⟨?_, ?_⟩
      · rintro ⟨j, hj, e⟩
        rw [ordOf_get (by omega)] at e
        exact ⟨n - 1 - j, by omega, by omega, by omega⟩
      · rintro ⟨j, h1, h2, e⟩
        refine ⟨n - 1 - j, by omega, ?_⟩
        rw [ordOf_get (by omega), show n - 1 - (n - 1 - j) = j by omega, e]
    rw [ordOf_get hi, ordOf_get (by omega), Int.toNat_natCast, Int.toNat_natCast]
    have hb2 := (bv_best (st := st) (cs := cs) (show n - 1 - k < n by omega)).1
    rw [cnt_congr hm hb.1 hsT, cnt_congr hm hb2 hsT]
    exact (hb.2.2 _ hb2 ((S_iff (by omega) hb2).2 ⟨n - 1 - k, by omega, by omega, rfl⟩)).1
  · have hI := ist_ok st cs n n (Nat.le_refl _)
    have hord : ordOK n (incL st cs n) := ordOK_of hI.nd hI.rng
    refine ⟨hI.ll, hord, by simp, by simp, by simp, fun _ T i hi hT hs k hki hk => ?_⟩
    have hII := ist_ok st cs n i (by omega)
    have hbi := ist_best hII hi
    have hbn := bI_in (st := st) (cs := cs) (P := (ist st cs n i).P) n
    have hsT : ∀ u, u < n → (T.getD u false = true ↔ (ist st cs n i).P.getD u false = true) := fun u hu => by
      rw [ist_mem (by omega) hu]
      exact hs u (by omega)
    have e1 : (incL st cs n).getD i default = bI st cs (ist st cs n i).P n := ist_get (Nat.le_refl n) i hi
    have h2 := hord k (by rw [show (incL st cs n).length = n from hI.ll]; exact hk)
    have hvn : ((incL st cs n).getD k default).toNat < n := by have := h2.1; have := h2.2.1; omega
    rw [e1, cnt_congr hm hvn hsT, cnt_congr hm (by omega) hsT]
    have h3 : (ist st cs n i).P.getD ((incL st cs n).getD k default).toNat false = false := by
      cases hc : (ist st cs n i).P.getD ((incL st cs n).getD k default).toNat false with
      | false => rfl
      | true =>
        obtain ⟨j, hj, e⟩ := (ist_mem (by omega) hvn).1 hc
        have := h2.1
        exact absurd (by omega) (h2.2.2 j (by omega))
    have h4 := (bI_pos n hbi).2 _ hvn h3
    unfold bts at h4
    omega
end Go.Proofs.Ytgdlkhgfehclpaa
end
