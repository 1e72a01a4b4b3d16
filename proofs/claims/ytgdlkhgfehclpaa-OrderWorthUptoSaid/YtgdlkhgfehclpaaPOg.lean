/- Patterns that may be: what May, Has and the search answer. No condition. -/
import Derived.Test.YtgdlkhgfehclpaaPOa
namespace Go.Proofs.Ytgdlkhgfehclpaa
open Go Go.AL
set_option linter.unusedVariables false
set_option linter.unusedSimpArgs false
abbrev pat (rows width : Int) (st cs : List Int) : AV := .agg [.int .i64 rows, .int .i64 width, ints st, ints cs]
theorem side_c (n : Int) : APure Try.prog 95 [.int .i64 n] (.bool (decide (0 ≤ n ∧ n ≤ 128))) := by
  refine apure_of (wp95 rfl rfl ?_)
  simp (maxSteps := 4000000) +contextual only [↓packA0, ↓packA1, ↓packA2, ↓reduceIte, packB0, packB1, packB2, packB3, packB4, pureOp, quietOp, loadOp, quietB, fr0, cellsK, Option.getD_some, Option.getD_none, implies_true, ite_true, ite_false, eq_self, ne_eq, reduceCtorEq, Nat.reduceLT, Nat.reduceLeDiff, Nat.reduceAdd, Nat.reduceMul, Nat.reduceBEq, Nat.reduceEqDiff, Int.reduceToNat, Int.reduceLT, Int.reduceLE, Nat.reduceSub, pl95, tsize_3, tbytes_3, tagg_3, zcells_3, telem_3, tint_3, tnotIface_3, ints]
  refine ⟨fun h => .pure _ rfl, fun h => ?_⟩
  simp only [false_and, decide_false]
  exact .pure _ rfl
theorem nan_c (n : Int) : APure Try.prog 117 [.int .i64 n] (.bool false) := by
  refine apure_of (wp117 rfl rfl ?_)
  simp (maxSteps := 4000000) +contextual only [↓packA0, ↓packA1, ↓packA2, ↓reduceIte, packB0, packB1, packB2, packB3, packB4, pureOp, quietOp, loadOp, quietB, fr0, cellsK, Option.getD_some, Option.getD_none, implies_true, ite_true, ite_false, eq_self, ne_eq, reduceCtorEq, Nat.reduceLT, Nat.reduceLeDiff, Nat.reduceAdd, Nat.reduceMul, Nat.reduceBEq, Nat.reduceEqDiff, Int.reduceToNat, Int.reduceLT, Int.reduceLE, Nat.reduceSub, pl117, tsize_3, tbytes_3, tagg_3, zcells_3, telem_3, tint_3, tnotIface_3, ints]
  rw [bne_self_eq_false]
  exact .pure _ rfl
theorem nan2_c (n : Int) : APure Try.prog 124 [.int .i64 n] (.bool false) := by
  refine apure_of (wp124 rfl rfl ?_)
  simp (maxSteps := 4000000) +contextual only [↓packA0, ↓packA1, ↓packA2, ↓reduceIte, packB0, packB1, packB2, packB3, packB4, pureOp, quietOp, loadOp, quietB, fr0, cellsK, Option.getD_some, Option.getD_none, implies_true, ite_true, ite_false, eq_self, ne_eq, reduceCtorEq, Nat.reduceLT, Nat.reduceLeDiff, Nat.reduceAdd, Nat.reduceMul, Nat.reduceBEq, Nat.reduceEqDiff, Int.reduceToNat, Int.reduceLT, Int.reduceLE, Nat.reduceSub, pl124, tsize_3, tbytes_3, tagg_3, zcells_3, telem_3, tint_3, tnotIface_3, ints]
  rw [bne_self_eq_false]
  exact .pure _ rfl
theorem less_c (a b : Int) : APure Try.prog 114 [.int .i64 a, .int .i64 b] (.bool (decide (a < b))) := by
  refine apure_of (wp114 rfl rfl ?_)
  simp (maxSteps := 4000000) +contextual only [↓packA0, ↓packA1, ↓packA2, ↓reduceIte, packB0, packB1, packB2, packB3, packB4, pureOp, quietOp, loadOp, quietB, fr0, cellsK, Option.getD_some, Option.getD_none, implies_true, ite_true, ite_false, eq_self, ne_eq, reduceCtorEq, Nat.reduceLT, Nat.reduceLeDiff, Nat.reduceAdd, Nat.reduceMul, Nat.reduceBEq, Nat.reduceEqDiff, Int.reduceToNat, Int.reduceLT, Int.reduceLE, Nat.reduceSub, pl114, tsize_3, tbytes_3, tagg_3, zcells_3, telem_3, tint_3, tnotIface_3, tsize_4, tbytes_4, tagg_4, zcells_4, telem_4, tbool_4, tnotIface_4, ints]
  refine acalls_pure (nan_c _) rfl ?_
  simp (maxSteps := 4000000) +contextual only [↓packA0, ↓packA1, ↓packA2, ↓reduceIte, packB0, packB1, packB2, packB3, packB4, pureOp, quietOp, loadOp, quietB, fr0, cellsK, Option.getD_some, Option.getD_none, implies_true, ite_true, ite_false, eq_self, ne_eq, reduceCtorEq, Nat.reduceLT, Nat.reduceLeDiff, Nat.reduceAdd, Nat.reduceMul, Nat.reduceBEq, Nat.reduceEqDiff, Int.reduceToNat, Int.reduceLT, Int.reduceLE, Nat.reduceSub, pl114, tsize_3, tbytes_3, tagg_3, zcells_3, telem_3, tint_3, tnotIface_3, tsize_4, tbytes_4, tagg_4, zcells_4, telem_4, tbool_4, tnotIface_4, ints]
  exact .pure _ rfl
/-- A list that never falls. -/
def srt (st : List Int) : Prop := ∀ i, i < st.length - 1 → st.getD i default ≤ st.getD (i + 1) default
instance (st : List Int) : Decidable (srt st) := by unfold srt; infer_instance
set_option maxRecDepth 100000 in
theorem sorted_c (st : List Int) (hb : st.length < 1000000000) : APure Try.prog 96 [ints st] (.bool (decide (srt st))) := by
  refine apure_of (wp96 rfl rfl ?_)
  simp (maxSteps := 4000000) +contextual only [↓packA0, ↓packA1, ↓packA2, ↓reduceIte, packB0, packB1, packB2, packB3, packB4, pureOp, quietOp, loadOp, quietB, fr0, cellsK, Option.getD_some, Option.getD_none, implies_true, ite_true, ite_false, eq_self, ne_eq, reduceCtorEq, Nat.reduceLT, Nat.reduceLeDiff, Nat.reduceAdd, Nat.reduceMul, Nat.reduceBEq, Nat.reduceEqDiff, Int.reduceToNat, Int.reduceLT, Int.reduceLE, Nat.reduceSub, pl96, tsize_3, tbytes_3, tagg_3, zcells_3, telem_3, tint_3, tnotIface_3, tsize_23, tbytes_23, tagg_23, zcells_23, telem_23, tnotIface_23, ints]
  refine ⟨by omega, LoopK.intro (fun m a h => ∃ k : Int, (m : Int) = k + 1 ∧ -1 ≤ k ∧ k < st.length ∧ (∀ i : Nat, k ≤ i → i < st.length - 1 → st.getD i default ≤ st.getD (i + 1) default) ∧ a 0 = ints st ∧ a 3 = .int .i64 k ∧ h = []) st.length ⟨st.length - 1, by omega, by omega, by omega, fun i h1 h2 => by omega, ?_⟩ ?_⟩
  · simp (maxSteps := 4000000) +contextual only [↓packA0, ↓packA1, ↓packA2, ↓reduceIte, packB0, packB1, packB2, packB3, packB4, pureOp, quietOp, loadOp, quietB, fr0, cellsK, Option.getD_some, Option.getD_none, implies_true, ite_true, ite_false, eq_self, ne_eq, reduceCtorEq, Nat.reduceLT, Nat.reduceLeDiff, Nat.reduceAdd, Nat.reduceMul, Nat.reduceBEq, Nat.reduceEqDiff, Int.reduceToNat, Int.reduceLT, Int.reduceLE, Nat.reduceSub, pl96, tsize_3, tbytes_3, tagg_3, zcells_3, telem_3, tint_3, tnotIface_3, tsize_23, tbytes_23, tagg_23, zcells_23, telem_23, tnotIface_23, ints]
  rintro m a h1 ⟨k, hm, hk0, hk1, hs, a0, a3, rfl⟩
  simp (maxSteps := 4000000) +contextual only [↓packA0, ↓packA1, ↓packA2, ↓reduceIte, packB0, packB1, packB2, packB3, packB4, pureOp, quietOp, loadOp, quietB, fr0, cellsK, Option.getD_some, Option.getD_none, implies_true, ite_true, ite_false, eq_self, ne_eq, reduceCtorEq, Nat.reduceLT, Nat.reduceLeDiff, Nat.reduceAdd, Nat.reduceMul, Nat.reduceBEq, Nat.reduceEqDiff, Int.reduceToNat, Int.reduceLT, Int.reduceLE, Nat.reduceSub, pl96, tsize_3, tbytes_3, tagg_3, zcells_3, telem_3, tint_3, tnotIface_3, tsize_23, tbytes_23, tagg_23, zcells_23, telem_23, tnotIface_23, ints, a0, a3]
  refine ⟨fun h2 => ⟨by omega, by omega, by omega, by omega, by omega, acalls_pure (less_c _ _) rfl ?_⟩, fun h2 => ?_⟩
  · simp (maxSteps := 4000000) +contextual only [↓packA0, ↓packA1, ↓packA2, ↓reduceIte, packB0, packB1, packB2, packB3, packB4, pureOp, quietOp, loadOp, quietB, fr0, cellsK, Option.getD_some, Option.getD_none, implies_true, ite_true, ite_false, eq_self, ne_eq, reduceCtorEq, Nat.reduceLT, Nat.reduceLeDiff, Nat.reduceAdd, Nat.reduceMul, Nat.reduceBEq, Nat.reduceEqDiff, Int.reduceToNat, Int.reduceLT, Int.reduceLE, Nat.reduceSub, pl96, tsize_3, tbytes_3, tagg_3, zcells_3, telem_3, tint_3, tnotIface_3, tsize_23, tbytes_23, tagg_23, zcells_23, telem_23, tnotIface_23, ints, a0, a3]
    refine ⟨fun h3 => ?_, fun h3 => ⟨by omega, .inl ⟨k.toNat, by omega, k - 1, by omega, by omega, by omega, fun i h4 h5 => ?_, rfl⟩⟩⟩
    · have : decide (srt st) = false := by
        refine decide_eq_false fun hc => ?_
        have := hc (k - 1).toNat (by omega)
        rw [show (k - 1).toNat + 1 = k.toNat by omega] at this
        omega
      rw [this]; exact .pure _ rfl
    · rcases Int.lt_or_le (i : Int) k with h6 | h6
      · rw [show i = (k - 1).toNat by omega, show (k - 1).toNat + 1 = k.toNat by omega]; omega
      · exact hs i h6 h5
  · have : decide (srt st) = true := decide_eq_true fun i hi => hs i (by omega) hi
    rw [this]; exact .pure _ rfl
end Go.Proofs.Ytgdlkhgfehclpaa
