/- Symmetric and graph. No condition. -/
import Derived.Test.YtgdlkhgfehclpaaPOi
namespace Go.Proofs.Ytgdlkhgfehclpaa
open Go Go.AL
set_option linter.unusedVariables false
set_option linter.unusedSimpArgs false
def symRow (st cs : List Int) (r : Nat) : Prop := ∀ j, j < (rowOf st cs r).length → (r : Int) ∈ rowOf st cs ((rowOf st cs r).getD j default).toNat
instance (st cs : List Int) (r : Nat) : Decidable (symRow st cs r) := by unfold symRow; infer_instance
def symP (rows width : Int) (st cs : List Int) : Prop := mayP rows width st cs ∧ rows = width ∧ ∀ r, r < rows.toNat → symRow st cs r
instance (rows width : Int) (st cs : List Int) : Decidable (symP rows width st cs) := by unfold symP; infer_instance
abbrev patO (rows width : Int) (st cs : List Int) : Ob := Ob.arr 4 [[.int .i64 rows, .int .i64 width, ints st, ints cs]] true
set_option maxRecDepth 100000 in
theorem sym_c (rows width : Int) (st cs : List Int) (hb : st.length < 1000000000) (hb2 : cs.length < 1000000000) : APure Try.prog 74 [pat rows width st cs] (.bool (decide (symP rows width st cs))) := by
  have no : ∀ {h : Heap}, ¬ symP rows width st cs → Frz h (.bool false) (.bool (decide (symP rows width st cs))) := fun hc => by rw [decide_eq_false hc]; exact .pure _ rfl
  refine apure_of (wp74 rfl rfl ?_)
  simp (maxSteps := 4000000) +contextual only [↓packA0, ↓packA1, ↓packA2, ↓reduceIte, packB0, packB1, packB2, packB3, packB4, pureOp, quietOp, loadOp, quietB, fr0, cellsK, Option.getD_some, Option.getD_none, implies_true, ite_true, ite_false, eq_self, ne_eq, reduceCtorEq, Nat.reduceLT, Nat.reduceLeDiff, Nat.reduceAdd, Nat.reduceMul, Nat.reduceBEq, Nat.reduceEqDiff, Int.reduceToNat, Int.reduceLT, Int.reduceLE, Nat.reduceSub, pl74, tfun_1, telem_1, tsize_3, tbytes_3, tagg_3, zcells_3, telem_3, tint_3, tnotIface_3, tsize_4, tbytes_4, tagg_4, zcells_4, telem_4, tbool_4, tnotIface_4, tsize_23, tbytes_23, tagg_23, zcells_23, telem_23, tnotIface_23, tsize_45, tbytes_45, tagg_45, zcells_45, telem_45, tnotIface_45, foff_45_0, foff_45_1, foff_45_2, foff_45_3, fplaces_45, tfun_157, telem_157, ints]
  refine acalls_pure (may_c rows width st cs hb hb2) rfl ?_
  simp (maxSteps := 4000000) +contextual only [↓packA0, ↓packA1, ↓packA2, ↓reduceIte, packB0, packB1, packB2, packB3, packB4, pureOp, quietOp, loadOp, quietB, fr0, cellsK, Option.getD_some, Option.getD_none, implies_true, ite_true, ite_false, eq_self, ne_eq, reduceCtorEq, Nat.reduceLT, Nat.reduceLeDiff, Nat.reduceAdd, Nat.reduceMul, Nat.reduceBEq, Nat.reduceEqDiff, Int.reduceToNat, Int.reduceLT, Int.reduceLE, Nat.reduceSub, pl74, tfun_1, telem_1, tsize_3, tbytes_3, tagg_3, zcells_3, telem_3, tint_3, tnotIface_3, tsize_4, tbytes_4, tagg_4, zcells_4, telem_4, tbool_4, tnotIface_4, tsize_23, tbytes_23, tagg_23, zcells_23, telem_23, tnotIface_23, tsize_45, tbytes_45, tagg_45, zcells_45, telem_45, tnotIface_45, foff_45_0, foff_45_1, foff_45_2, foff_45_3, fplaces_45, tfun_157, telem_157, ints]
  refine ⟨fun h0 => ⟨fun h1 => no fun hc => h1 hc.2.1, fun h1 => ?_⟩, fun h0 => no fun hc => h0 hc.1⟩
  subst h1
  refine wp97 rfl rfl ?_
  simp (maxSteps := 4000000) +contextual only [↓packA0, ↓packA1, ↓packA2, ↓reduceIte, packB0, packB1, packB2, packB3, packB4, pureOp, quietOp, loadOp, quietB, fr0, cellsK, Option.getD_some, Option.getD_none, implies_true, ite_true, ite_false, eq_self, ne_eq, reduceCtorEq, Nat.reduceLT, Nat.reduceLeDiff, Nat.reduceAdd, Nat.reduceMul, Nat.reduceBEq, Nat.reduceEqDiff, Int.reduceToNat, Int.reduceLT, Int.reduceLE, Nat.reduceSub, pl97, tsize_2, tbytes_2, tagg_2, zcells_2, telem_2, tint_2, tnotIface_2, tsize_3, tbytes_3, tagg_3, zcells_3, telem_3, tint_3, tnotIface_3, tsize_23, tbytes_23, tagg_23, zcells_23, telem_23, tnotIface_23, tsize_45, tbytes_45, tagg_45, zcells_45, telem_45, tnotIface_45, foff_45_0, foff_45_1, foff_45_2, foff_45_3, fplaces_45, pl74, tfun_1, telem_1, tsize_4, tbytes_4, tagg_4, zcells_4, telem_4, tbool_4, tnotIface_4, tfun_157, telem_157, patO, ints]
  refine LoopK.intro (fun m a h => ∃ (r : Nat) (b : Bool), m = rows.toNat - r ∧ r ≤ rows.toNat ∧ (b = true ↔ ∀ i, i < r → symRow st cs i) ∧ a 1 = .fn (.func 98) [] [.op 0 4 0 0, .op 1 1 0 0] ∧ a 2 = .op 2 4 0 0 ∧ a 7 = .int .i64 rows ∧ a 8 = .int .i64 r ∧ h = [patO rows rows st cs, Ob.arr 1 [[.bool b]] true, patO rows rows st cs]) rows.toNat ⟨0, true, rfl, Nat.zero_le _, by simp, ?_⟩ ?_
  · simp (maxSteps := 4000000) +contextual only [↓packA0, ↓packA1, ↓packA2, ↓reduceIte, packB0, packB1, packB2, packB3, packB4, pureOp, quietOp, loadOp, quietB, fr0, cellsK, Option.getD_some, Option.getD_none, implies_true, ite_true, ite_false, eq_self, ne_eq, reduceCtorEq, Nat.reduceLT, Nat.reduceLeDiff, Nat.reduceAdd, Nat.reduceMul, Nat.reduceBEq, Nat.reduceEqDiff, Int.reduceToNat, Int.reduceLT, Int.reduceLE, Nat.reduceSub, pl97, tsize_2, tbytes_2, tagg_2, zcells_2, telem_2, tint_2, tnotIface_2, tsize_3, tbytes_3, tagg_3, zcells_3, telem_3, tint_3, tnotIface_3, tsize_23, tbytes_23, tagg_23, zcells_23, telem_23, tnotIface_23, tsize_45, tbytes_45, tagg_45, zcells_45, telem_45, tnotIface_45, foff_45_0, foff_45_1, foff_45_2, foff_45_3, fplaces_45, pl74, tfun_1, telem_1, tsize_4, tbytes_4, tagg_4, zcells_4, telem_4, tbool_4, tnotIface_4, tfun_157, telem_157, patO, ints, Int.natCast_zero]
  rintro m a h ⟨r, b, rfl, hr, hbr, a1, a2, a7, a8, rfl⟩
  simp (maxSteps := 4000000) +contextual only [↓packA0, ↓packA1, ↓packA2, ↓reduceIte, packB0, packB1, packB2, packB3, packB4, pureOp, quietOp, loadOp, quietB, fr0, cellsK, Option.getD_some, Option.getD_none, implies_true, ite_true, ite_false, eq_self, ne_eq, reduceCtorEq, Nat.reduceLT, Nat.reduceLeDiff, Nat.reduceAdd, Nat.reduceMul, Nat.reduceBEq, Nat.reduceEqDiff, Int.reduceToNat, Int.reduceLT, Int.reduceLE, Nat.reduceSub, pl97, tsize_2, tbytes_2, tagg_2, zcells_2, telem_2, tint_2, tnotIface_2, tsize_3, tbytes_3, tagg_3, zcells_3, telem_3, tint_3, tnotIface_3, tsize_23, tbytes_23, tagg_23, zcells_23, telem_23, tnotIface_23, tsize_45, tbytes_45, tagg_45, zcells_45, telem_45, tnotIface_45, foff_45_0, foff_45_1, foff_45_2, foff_45_3, fplaces_45, pl74, tfun_1, telem_1, tsize_4, tbytes_4, tagg_4, zcells_4, telem_4, tbool_4, tnotIface_4, tfun_157, telem_157, patO, ints, a1, a2, a7, a8]
  refine ⟨fun h2 => ?_, fun h2 => ?_⟩
  · obtain ⟨q1, q2, q3, q4, q5, q6, q7⟩ := may_row h0 (show r < rows.toNat by omega)
    refine ⟨by omega, by omega, ?_⟩
    refine LoopK.intro (fun m a h => ∃ (j : Nat) (b : Bool), m = (rowOf st cs r).length - j ∧ j ≤ (rowOf st cs r).length ∧ (b = true ↔ (∀ i, i < r → symRow st cs i) ∧ ∀ i, i < j → (r : Int) ∈ rowOf st cs ((rowOf st cs r).getD i default).toNat) ∧ a 1 = .fn (.func 98) [] [.op 0 4 0 0, .op 1 1 0 0] ∧ a 2 = .op 2 4 0 0 ∧ a 4 = .int .i64 r ∧ a 5 = .int .i64 (((st.getD r default).toNat + j : Nat) : Int) ∧ a 7 = .int .i64 rows ∧ a 8 = .int .i64 r ∧ h = [patO rows rows st cs, Ob.arr 1 [[.bool b]] true, patO rows rows st cs]) (rowOf st cs r).length ⟨0, b, rfl, Nat.zero_le _, by simp [hbr], ?_⟩ ?_
    · simp (maxSteps := 4000000) +contextual only [↓packA0, ↓packA1, ↓packA2, ↓reduceIte, packB0, packB1, packB2, packB3, packB4, pureOp, quietOp, loadOp, quietB, fr0, cellsK, Option.getD_some, Option.getD_none, implies_true, ite_true, ite_false, eq_self, ne_eq, reduceCtorEq, Nat.reduceLT, Nat.reduceLeDiff, Nat.reduceAdd, Nat.reduceMul, Nat.reduceBEq, Nat.reduceEqDiff, Int.reduceToNat, Int.reduceLT, Int.reduceLE, Nat.reduceSub, pl97, tsize_2, tbytes_2, tagg_2, zcells_2, telem_2, tint_2, tnotIface_2, tsize_3, tbytes_3, tagg_3, zcells_3, telem_3, tint_3, tnotIface_3, tsize_23, tbytes_23, tagg_23, zcells_23, telem_23, tnotIface_23, tsize_45, tbytes_45, tagg_45, zcells_45, telem_45, tnotIface_45, foff_45_0, foff_45_1, foff_45_2, foff_45_3, fplaces_45, pl74, tfun_1, telem_1, tsize_4, tbytes_4, tagg_4, zcells_4, telem_4, tbool_4, tnotIface_4, tfun_157, telem_157, patO, ints, a1, a2, a7, a8]
      omega
    rintro m a h ⟨j, b, rfl, hj, hbj, a1, a2, a4, a5, a7, a8, rfl⟩
    simp (maxSteps := 4000000) +contextual only [↓packA0, ↓packA1, ↓packA2, ↓reduceIte, packB0, packB1, packB2, packB3, packB4, pureOp, quietOp, loadOp, quietB, fr0, cellsK, Option.getD_some, Option.getD_none, implies_true, ite_true, ite_false, eq_self, ne_eq, reduceCtorEq, Nat.reduceLT, Nat.reduceLeDiff, Nat.reduceAdd, Nat.reduceMul, Nat.reduceBEq, Nat.reduceEqDiff, Int.reduceToNat, Int.reduceLT, Int.reduceLE, Nat.reduceSub, pl97, tsize_2, tbytes_2, tagg_2, zcells_2, telem_2, tint_2, tnotIface_2, tsize_3, tbytes_3, tagg_3, zcells_3, telem_3, tint_3, tnotIface_3, tsize_23, tbytes_23, tagg_23, zcells_23, telem_23, tnotIface_23, tsize_45, tbytes_45, tagg_45, zcells_45, telem_45, tnotIface_45, foff_45_0, foff_45_1, foff_45_2, foff_45_3, fplaces_45, pl74, tfun_1, telem_1, tsize_4, tbytes_4, tagg_4, zcells_4, telem_4, tbool_4, tnotIface_4, tfun_157, telem_157, patO, ints, a1, a2, a4, a5, a7, a8]
    have hg : j < (rowOf st cs r).length → cs.getD ((st.getD r default).toNat + j) default = (rowOf st cs r).getD j default := fun hj => (row_getD h0 (by omega) hj).symm
    refine ⟨by omega, by omega, by omega, fun h3 => ⟨by omega, by omega, ?_⟩, fun h3 => ?_⟩
    · have hj2 : j < (rowOf st cs r).length := by omega
      have hn0 := row_nonneg q4 hj2
      have hn1 := (q4 j hj2).2
      rw [hg hj2]
      refine wp98 rfl rfl ?_
      simp (maxSteps := 4000000) +contextual only [↓packA0, ↓packA1, ↓packA2, ↓reduceIte, packB0, packB1, packB2, packB3, packB4, pureOp, quietOp, loadOp, quietB, fr0, cellsK, Option.getD_some, Option.getD_none, implies_true, ite_true, ite_false, eq_self, ne_eq, reduceCtorEq, Nat.reduceLT, Nat.reduceLeDiff, Nat.reduceAdd, Nat.reduceMul, Nat.reduceBEq, Nat.reduceEqDiff, Int.reduceToNat, Int.reduceLT, Int.reduceLE, Nat.reduceSub, pl98, tsize_3, tbytes_3, tagg_3, zcells_3, telem_3, tint_3, tnotIface_3, tsize_4, tbytes_4, tagg_4, zcells_4, telem_4, tbool_4, tnotIface_4, tsize_23, tbytes_23, tagg_23, zcells_23, telem_23, tnotIface_23, tsize_45, tbytes_45, tagg_45, zcells_45, telem_45, tnotIface_45, foff_45_0, foff_45_1, foff_45_2, foff_45_3, fplaces_45, pl97, tsize_2, tbytes_2, tagg_2, zcells_2, telem_2, tint_2, tnotIface_2, pl74, tfun_1, telem_1, tfun_157, telem_157, patO, ints]
      refine acalls_pure (find_i rows rows st cs hb hb2 h0 _ hn0 hn1 r) rfl ?_
      simp (maxSteps := 4000000) +contextual only [↓packA0, ↓packA1, ↓packA2, ↓reduceIte, packB0, packB1, packB2, packB3, packB4, pureOp, quietOp, loadOp, quietB, fr0, cellsK, Option.getD_some, Option.getD_none, implies_true, ite_true, ite_false, eq_self, ne_eq, reduceCtorEq, Nat.reduceLT, Nat.reduceLeDiff, Nat.reduceAdd, Nat.reduceMul, Nat.reduceBEq, Nat.reduceEqDiff, Int.reduceToNat, Int.reduceLT, Int.reduceLE, Nat.reduceSub, pl98, tsize_3, tbytes_3, tagg_3, zcells_3, telem_3, tint_3, tnotIface_3, tsize_4, tbytes_4, tagg_4, zcells_4, telem_4, tbool_4, tnotIface_4, tsize_23, tbytes_23, tagg_23, zcells_23, telem_23, tnotIface_23, tsize_45, tbytes_45, tagg_45, zcells_45, telem_45, tnotIface_45, foff_45_0, foff_45_1, foff_45_2, foff_45_3, fplaces_45, pl97, tsize_2, tbytes_2, tagg_2, zcells_2, telem_2, tint_2, tnotIface_2, pl74, tfun_1, telem_1, tfun_157, telem_157, patO, ints, a1, a2, a4, a5, a7, a8]
      cases b
      · simp (maxSteps := 4000000) +contextual only [↓packA0, ↓packA1, ↓packA2, ↓reduceIte, packB0, packB1, packB2, packB3, packB4, pureOp, quietOp, loadOp, quietB, fr0, cellsK, Option.getD_some, Option.getD_none, implies_true, ite_true, ite_false, eq_self, ne_eq, reduceCtorEq, Nat.reduceLT, Nat.reduceLeDiff, Nat.reduceAdd, Nat.reduceMul, Nat.reduceBEq, Nat.reduceEqDiff, Int.reduceToNat, Int.reduceLT, Int.reduceLE, Nat.reduceSub, pl98, tsize_3, tbytes_3, tagg_3, zcells_3, telem_3, tint_3, tnotIface_3, tsize_4, tbytes_4, tagg_4, zcells_4, telem_4, tbool_4, tnotIface_4, tsize_23, tbytes_23, tagg_23, zcells_23, telem_23, tnotIface_23, tsize_45, tbytes_45, tagg_45, zcells_45, telem_45, tnotIface_45, foff_45_0, foff_45_1, foff_45_2, foff_45_3, fplaces_45, pl97, tsize_2, tbytes_2, tagg_2, zcells_2, telem_2, tint_2, tnotIface_2, pl74, tfun_1, telem_1, tfun_157, telem_157, patO, ints, a1, a2, a4, a5, a7, a8]
        refine ⟨by omega, .inl ⟨(rowOf st cs r).length - (j + 1), by omega, j + 1, false, rfl, by omega, ?_, by omega, rfl⟩⟩
        constructor
        · intro hc; cases hc
        · intro hc; exact hbj.2 ⟨hc.1, fun i hi => hc.2 i (by omega)⟩
      · simp (maxSteps := 4000000) +contextual only [↓packA0, ↓packA1, ↓packA2, ↓reduceIte, packB0, packB1, packB2, packB3, packB4, pureOp, quietOp, loadOp, quietB, fr0, cellsK, Option.getD_some, Option.getD_none, implies_true, ite_true, ite_false, eq_self, ne_eq, reduceCtorEq, Nat.reduceLT, Nat.reduceLeDiff, Nat.reduceAdd, Nat.reduceMul, Nat.reduceBEq, Nat.reduceEqDiff, Int.reduceToNat, Int.reduceLT, Int.reduceLE, Nat.reduceSub, pl98, tsize_3, tbytes_3, tagg_3, zcells_3, telem_3, tint_3, tnotIface_3, tsize_4, tbytes_4, tagg_4, zcells_4, telem_4, tbool_4, tnotIface_4, tsize_23, tbytes_23, tagg_23, zcells_23, telem_23, tnotIface_23, tsize_45, tbytes_45, tagg_45, zcells_45, telem_45, tnotIface_45, foff_45_0, foff_45_1, foff_45_2, foff_45_3, fplaces_45, pl97, tsize_2, tbytes_2, tagg_2, zcells_2, telem_2, tint_2, tnotIface_2, pl74, tfun_1, telem_1, tfun_157, telem_157, patO, ints, a1, a2, a4, a5, a7, a8]
        refine ⟨by omega, .inl ⟨(rowOf st cs r).length - (j + 1), by omega, j + 1, _, rfl, by omega, ?_, by omega, rfl⟩⟩
        rw [decide_eq_true_iff]
        constructor
        · intro hc
          refine ⟨(hbj.1 rfl).1, fun i hi => ?_⟩
          rcases Nat.lt_or_ge i j with h4 | h4
          · exact (hbj.1 rfl).2 i h4
          · rw [show i = j by omega]; exact hc
        · intro hc; exact hc.2 j (by omega)
    · have hjl : j = (rowOf st cs r).length := by omega
      subst hjl
      refine ⟨by omega, .inl ⟨rows.toNat - (r + 1), by omega, r + 1, b, rfl, by omega, ?_, by omega, rfl⟩⟩
      rw [hbj]
      constructor
      · rintro ⟨h4, h5⟩ i hi
        rcases Nat.lt_or_ge i r with h6 | h6
        · exact h4 i h6
        · rw [show i = r by omega]; exact h5
      · intro h4; exact ⟨fun i hi => h4 i (by omega), h4 r (by omega)⟩
  · have hrr : r = rows.toNat := by omega
    subst hrr
    have : decide (symP rows rows st cs) = b := by
      cases b
      · refine decide_eq_false fun hc => ?_
        have := hbr.2 hc.2.2
        cases this
      · exact decide_eq_true ⟨h0, rfl, hbr.1 rfl⟩
    rw [this]
    exact .pure _ rfl
end Go.Proofs.Ytgdlkhgfehclpaa
