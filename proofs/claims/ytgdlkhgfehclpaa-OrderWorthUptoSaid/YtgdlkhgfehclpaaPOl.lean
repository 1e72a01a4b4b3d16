/- What a pattern and a graph are, the document's. No condition. -/
import Derived.Test.YtgdlkhgfehclpaaPOk
namespace Go.Proofs.Ytgdlkhgfehclpaa
open Go Go.AL
set_option linter.unusedVariables false
set_option linter.unusedSimpArgs false
theorem row_get' {st cs : List Int} {r j : Nat} (hj : j < (st.getD (r + 1) default).toNat - (st.getD r default).toNat) : (rowOf st cs r).getD j default = cs.getD ((st.getD r default).toNat + j) default := by
  simp only [List.getD_eq_getElem?_getD] at hj
  simp only [rowOf, List.getD_eq_getElem?_getD, List.getElem?_take, List.getElem?_drop]
  rw [if_pos hj]
set_option maxHeartbeats 4000000 in
set_option maxRecDepth 100000 in
theorem rmay_c (rows width : Int) (st cs : List Int) (hb : st.length < 1000000000) (hb2 : cs.length < 1000000000) : APure Try.prog 81 [pat rows width st cs] (.bool (decide (mayP rows width st cs))) := by
  have no : ∀ {h : Heap}, ¬ mayP rows width st cs → Frz h (.bool false) (.bool (decide (mayP rows width st cs))) := fun hc => by rw [decide_eq_false hc]; exact .pure _ rfl
  refine apure_of (wp81 rfl rfl ?_)
  simp (maxSteps := 4000000) +contextual only [↓packA0, ↓packA1, ↓packA2, ↓reduceIte, packB0, packB1, packB2, packB3, packB4, pureOp, quietOp, loadOp, quietB, fr0, cellsK, Option.getD_some, Option.getD_none, implies_true, ite_true, ite_false, eq_self, ne_eq, reduceCtorEq, Nat.reduceLT, Nat.reduceLeDiff, Nat.reduceAdd, Nat.reduceMul, Nat.reduceBEq, Nat.reduceEqDiff, Int.reduceToNat, Int.reduceLT, Int.reduceLE, Nat.reduceSub, pl81, tfun_1, telem_1, tsize_2, tbytes_2, tagg_2, zcells_2, telem_2, tint_2, tnotIface_2, tsize_3, tbytes_3, tagg_3, zcells_3, telem_3, tint_3, tnotIface_3, tsize_23, tbytes_23, tagg_23, zcells_23, telem_23, tnotIface_23, tsize_45, tbytes_45, tagg_45, zcells_45, telem_45, tnotIface_45, foff_45_0, foff_45_1, foff_45_2, foff_45_3, fplaces_45, ints]
  refine ⟨fun g0 => no fun hc => by have := hc.1; omega, fun g0 => ⟨fun g1 => no fun hc => by have := hc.1; omega, fun g1 => ⟨fun g2 => no fun hc => by have := hc.2.1; omega, fun g2 => ⟨fun g3 => no fun hc => by have := hc.2.1; omega, fun g3 => ⟨by omega, fun h2 => no fun hc => h2 hc.2.2.1, fun h2 => ⟨by omega, fun h3 => no fun hc => h3 hc.2.2.2.1, fun h3 => ⟨by omega, by omega, fun h4 => no fun hc => h4 hc.2.2.2.2.1, fun h4 => ?_⟩⟩⟩⟩⟩⟩⟩
  refine LoopK.intro (fun m a h => ∃ r : Nat, m = rows.toNat - r ∧ r ≤ rows.toNat ∧ 0 ≤ st.getD r default ∧ (∀ i, i < r → st.getD i default ≤ st.getD (i + 1) default ∧ rowOK width (rowOf st cs i)) ∧ a 1 = .op 0 4 0 0 ∧ a 3 = .int .i64 r ∧ h = [patO rows width st cs]) rows.toNat ⟨0, rfl, Nat.zero_le _, by omega, fun i h => absurd h (Nat.not_lt_zero _), ?_⟩ ?_
  · simp (maxSteps := 4000000) +contextual only [↓packA0, ↓packA1, ↓packA2, ↓reduceIte, packB0, packB1, packB2, packB3, packB4, pureOp, quietOp, loadOp, quietB, fr0, cellsK, Option.getD_some, Option.getD_none, implies_true, ite_true, ite_false, eq_self, ne_eq, reduceCtorEq, Nat.reduceLT, Nat.reduceLeDiff, Nat.reduceAdd, Nat.reduceMul, Nat.reduceBEq, Nat.reduceEqDiff, Int.reduceToNat, Int.reduceLT, Int.reduceLE, Nat.reduceSub, pl81, tfun_1, telem_1, tsize_2, tbytes_2, tagg_2, zcells_2, telem_2, tint_2, tnotIface_2, tsize_3, tbytes_3, tagg_3, zcells_3, telem_3, tint_3, tnotIface_3, tsize_23, tbytes_23, tagg_23, zcells_23, telem_23, tnotIface_23, tsize_45, tbytes_45, tagg_45, zcells_45, telem_45, tnotIface_45, foff_45_0, foff_45_1, foff_45_2, foff_45_3, fplaces_45, patO, ints, Int.natCast_zero]
  rintro m a h ⟨r, rfl, hr, hst, hok, a1, a3, rfl⟩
  have hr1 : ((r : Int) + 1).toNat = r + 1 := by omega
  simp (maxSteps := 4000000) +contextual only [↓packA0, ↓packA1, ↓packA2, ↓reduceIte, packB0, packB1, packB2, packB3, packB4, pureOp, quietOp, loadOp, quietB, fr0, cellsK, Option.getD_some, Option.getD_none, implies_true, ite_true, ite_false, eq_self, ne_eq, reduceCtorEq, Nat.reduceLT, Nat.reduceLeDiff, Nat.reduceAdd, Nat.reduceMul, Nat.reduceBEq, Nat.reduceEqDiff, Int.reduceToNat, Int.reduceLT, Int.reduceLE, Nat.reduceSub, pl81, tfun_1, telem_1, tsize_2, tbytes_2, tagg_2, zcells_2, telem_2, tint_2, tnotIface_2, tsize_3, tbytes_3, tagg_3, zcells_3, telem_3, tint_3, tnotIface_3, tsize_23, tbytes_23, tagg_23, zcells_23, telem_23, tnotIface_23, tsize_45, tbytes_45, tagg_45, zcells_45, telem_45, tnotIface_45, foff_45_0, foff_45_1, foff_45_2, foff_45_3, fplaces_45, patO, ints, a1, a3, hr1]
  refine ⟨fun h6 => ⟨by omega, by omega, by omega, by omega, by omega, fun h7 => no fun hc => ?_, fun h7 => ⟨by omega, by omega, by omega, fun h8 => no fun hc => ?_, fun h8 => ⟨by omega, by omega, ?_⟩⟩⟩, fun h6 => ?_⟩
  · have := hc.2.2.2.2.2.1 r (by omega)
    omega
  · have := (may_row hc (show r < rows.toNat by omega)).2.2.1
    omega
  · have hrl := rowOf_length (cs := cs) hst (by omega) (by omega)
    have hg : ∀ j, j < (rowOf st cs r).length → cs.getD ((st.getD r default).toNat + j) default = (rowOf st cs r).getD j default := fun j hj => (row_get' (by omega)).symm
    refine LoopK.intro (fun m a h => ∃ j : Nat, m = (rowOf st cs r).length - j ∧ j ≤ (rowOf st cs r).length ∧ (∀ i, i < j → prv (rowOf st cs r) i < (rowOf st cs r).getD i default ∧ (rowOf st cs r).getD i default < width) ∧ a 1 = .op 0 4 0 0 ∧ a 3 = .int .i64 r ∧ a 4 = .int .i64 (((st.getD r default).toNat + j : Nat) : Int) ∧ h = [patO rows width st cs]) (rowOf st cs r).length ⟨0, rfl, Nat.zero_le _, fun i h => absurd h (Nat.not_lt_zero _), ?_⟩ ?_
    · simp (maxSteps := 4000000) +contextual only [↓packA0, ↓packA1, ↓packA2, ↓reduceIte, packB0, packB1, packB2, packB3, packB4, pureOp, quietOp, loadOp, quietB, fr0, cellsK, Option.getD_some, Option.getD_none, implies_true, ite_true, ite_false, eq_self, ne_eq, reduceCtorEq, Nat.reduceLT, Nat.reduceLeDiff, Nat.reduceAdd, Nat.reduceMul, Nat.reduceBEq, Nat.reduceEqDiff, Int.reduceToNat, Int.reduceLT, Int.reduceLE, Nat.reduceSub, pl81, tfun_1, telem_1, tsize_2, tbytes_2, tagg_2, zcells_2, telem_2, tint_2, tnotIface_2, tsize_3, tbytes_3, tagg_3, zcells_3, telem_3, tint_3, tnotIface_3, tsize_23, tbytes_23, tagg_23, zcells_23, telem_23, tnotIface_23, tsize_45, tbytes_45, tagg_45, zcells_45, telem_45, tnotIface_45, foff_45_0, foff_45_1, foff_45_2, foff_45_3, fplaces_45, patO, ints, Int.natCast_zero, a1, a3]
      omega
    rintro m a h ⟨j, rfl, hj, hjok, a1, a3, a4, rfl⟩
    simp (maxSteps := 4000000) +contextual only [↓packA0, ↓packA1, ↓packA2, ↓reduceIte, packB0, packB1, packB2, packB3, packB4, pureOp, quietOp, loadOp, quietB, fr0, cellsK, Option.getD_some, Option.getD_none, implies_true, ite_true, ite_false, eq_self, ne_eq, reduceCtorEq, Nat.reduceLT, Nat.reduceLeDiff, Nat.reduceAdd, Nat.reduceMul, Nat.reduceBEq, Nat.reduceEqDiff, Int.reduceToNat, Int.reduceLT, Int.reduceLE, Nat.reduceSub, pl81, tfun_1, telem_1, tsize_2, tbytes_2, tagg_2, zcells_2, telem_2, tint_2, tnotIface_2, tsize_3, tbytes_3, tagg_3, zcells_3, telem_3, tint_3, tnotIface_3, tsize_23, tbytes_23, tagg_23, zcells_23, telem_23, tnotIface_23, tsize_45, tbytes_45, tagg_45, zcells_45, telem_45, tnotIface_45, foff_45_0, foff_45_1, foff_45_2, foff_45_3, fplaces_45, patO, ints, a1, a3, a4, hr1]
    have fin : prv (rowOf st cs r) j < (rowOf st cs r).getD j default → (rowOf st cs r).getD j default < width → ∀ i, i < j + 1 → prv (rowOf st cs r) i < (rowOf st cs r).getD i default ∧ (rowOf st cs r).getD i default < width := fun h9 h10 i hi => by
      rcases Nat.lt_or_ge i j with h11 | h11
      · exact hjok i h11
      · rw [show i = j by omega]; exact ⟨h9, h10⟩
    refine ⟨by omega, by omega, by omega, fun h9 => ?_, fun h9 => ?_⟩
    · have hj2 : j < (rowOf st cs r).length := by omega
      rw [hg j hj2]
      refine ⟨by omega, by omega, fun h10 => no fun hc => ?_, fun h10 => ⟨by omega, by omega, fun h11 => no fun hc => ?_, fun h11 => ⟨by omega, by omega, fun h12 => ?_, fun h12 => ?_⟩⟩⟩
      · have := row_nonneg (may_row hc (show r < rows.toNat by omega)).2.2.2.1 hj2
        omega
      · have := ((may_row hc (show r < rows.toNat by omega)).2.2.2.1 j hj2).2
        omega
      · have hp : cs.getD ((((st.getD r default).toNat + j : Nat) : Int) - 1).toNat default = prv (rowOf st cs r) j := by
          rw [show ((((st.getD r default).toNat + j : Nat) : Int) - 1).toNat = (st.getD r default).toNat + (j - 1) by omega, hg (j - 1) (by omega)]
          simp only [prv]
          rw [if_neg (by omega)]
        rw [hp]
        refine ⟨by omega, by omega, by omega, by omega, by omega, fun h13 => no fun hc => ?_, fun h13 => ⟨by omega, .inl ⟨(rowOf st cs r).length - (j + 1), by omega, j + 1, rfl, by omega, fin (by omega) (by omega), by omega⟩⟩⟩
        have := ((may_row hc (show r < rows.toNat by omega)).2.2.2.1 j hj2).1
        omega
      · obtain rfl : j = 0 := by omega
        refine ⟨by omega, .inl ⟨(rowOf st cs r).length - 1, by omega, 1, rfl, by omega, fin ?_ (by omega), by omega⟩⟩
        simp only [prv, if_pos]
        omega
    · have hjl : j = (rowOf st cs r).length := by omega
      subst hjl
      refine ⟨by omega, .inl ⟨rows.toNat - (r + 1), by omega, r + 1, rfl, by omega, by omega, fun i hi => ?_, by omega⟩⟩
      rcases Nat.lt_or_ge i r with h11 | h11
      · exact hok i h11
      · rw [show i = r by omega]; exact ⟨by omega, hjok⟩
  · have hs : srt st := fun i hi => (hok i (by omega)).1
    rw [decide_eq_true (show mayP rows width st cs from ⟨by omega, by omega, h2, h3, h4, hs, fun i hi => (hok i (by omega)).2⟩)]
    exact .pure _ rfl
end Go.Proofs.Ytgdlkhgfehclpaa
