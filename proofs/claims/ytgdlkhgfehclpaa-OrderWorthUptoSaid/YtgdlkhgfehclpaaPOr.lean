/- The greatest of a list, the first that fits, what is left. No condition. -/
import Derived.Test.YtgdlkhgfehclpaaPOo
namespace Go.Proofs.Ytgdlkhgfehclpaa
open Go Go.AL
set_option linter.unusedVariables false
set_option linter.unusedSimpArgs false
theorem minK_2 {g : Int → Int → Int} {x y : Int} {K : AV → Prop} : minK g [.int .i64 x, .int .i64 y] K = K (.int .i64 (g x y)) := by
  simp [minK, mins]
@[congr] theorem minK_cg {g g' : Int → Int → Int} {us us' : List AV} {K : AV → Prop} (e1 : mk us = us') (e2 : mk g = g') : minK g us K = minK g' us' K := by rw [← e1, ← e2]; rfl
theorem imax_eq {x y : Int} : imax x y = max x y := by unfold imax; omega
/-- The greatest of the first k (k > 0). -/
def maxK (l : List Int) : Nat → Int
  | 0 => l.getD 0 default
  | k + 1 => max (maxK l k) (l.getD (k + 1) default)
set_option maxRecDepth 100000 in
theorem max_c (l : List Int) (hb : l.length < 1000000000) (h0 : 0 < l.length) : APure Try.prog 77 [ints l] (.int .i64 (maxK l (l.length - 1))) := by
  refine apure_of (wp77 rfl rfl ?_)
  simp (maxSteps := 4000000) +contextual only [↓packA0, ↓packA1, ↓packA2, ↓reduceIte, packB0, packB1, packB2, packB3, packB4, pureOp, quietOp, loadOp, quietB, fr0, cellsK, Option.getD_some, Option.getD_none, implies_true, ite_true, ite_false, eq_self, ne_eq, reduceCtorEq, Nat.reduceLT, Nat.reduceLeDiff, Nat.reduceAdd, Nat.reduceMul, Nat.reduceBEq, Nat.reduceEqDiff, Int.reduceToNat, Int.reduceLT, Int.reduceLE, Nat.reduceSub, pl77, tsize_3, tbytes_3, tagg_3, zcells_3, telem_3, tint_3, tnotIface_3, tsize_9, tbytes_9, tagg_9, zcells_9, telem_9, tstring_9, tnotIface_9, tsize_23, tbytes_23, tagg_23, zcells_23, telem_23, tnotIface_23, ints, minK_2, imax_eq]
  refine ⟨fun h => by omega, fun h => ⟨by omega, ?_⟩⟩
  refine LoopK.intro (fun m a h => ∃ k : Nat, m = l.length - k ∧ k < l.length ∧ a 0 = ints l ∧ a 3 = .int .i64 (maxK l k) ∧ a 4 = .int .i64 (k + 1 : Nat) ∧ h = []) (l.length - 0) ⟨0, rfl, h0, ?_⟩ ?_
  · simp (maxSteps := 4000000) only [↓packA0, ↓packA1, ↓packA2, ↓reduceIte, packB0, packB1, packB2, packB3, packB4, pureOp, quietOp, loadOp, quietB, fr0, cellsK, Option.getD_some, Option.getD_none, implies_true, ite_true, ite_false, eq_self, ne_eq, reduceCtorEq, Nat.reduceLT, Nat.reduceLeDiff, Nat.reduceAdd, Nat.reduceMul, Nat.reduceBEq, Nat.reduceEqDiff, Int.reduceToNat, Int.reduceLT, Int.reduceLE, Nat.reduceSub, pl77, tsize_3, tbytes_3, tagg_3, zcells_3, telem_3, tint_3, tnotIface_3, tsize_9, tbytes_9, tagg_9, zcells_9, telem_9, tstring_9, tnotIface_9, tsize_23, tbytes_23, tagg_23, zcells_23, telem_23, tnotIface_23, ints, maxK]
    rfl
  rintro m a h ⟨k, rfl, hk, a0, a3, a4, rfl⟩
  simp (maxSteps := 4000000) +contextual only [↓packA0, ↓packA1, ↓packA2, ↓reduceIte, packB0, packB1, packB2, packB3, packB4, pureOp, quietOp, loadOp, quietB, fr0, cellsK, Option.getD_some, Option.getD_none, implies_true, ite_true, ite_false, eq_self, ne_eq, reduceCtorEq, Nat.reduceLT, Nat.reduceLeDiff, Nat.reduceAdd, Nat.reduceMul, Nat.reduceBEq, Nat.reduceEqDiff, Int.reduceToNat, Int.reduceLT, Int.reduceLE, Nat.reduceSub, pl77, tsize_3, tbytes_3, tagg_3, zcells_3, telem_3, tint_3, tnotIface_3, tsize_9, tbytes_9, tagg_9, zcells_9, telem_9, tstring_9, tnotIface_9, tsize_23, tbytes_23, tagg_23, zcells_23, telem_23, tnotIface_23, ints, a0, a3, a4, minK_2, imax_eq]
  refine ⟨fun h2 => ⟨by omega, by omega, by omega, .inl ⟨l.length - (k + 1), by omega, k + 1, rfl, by omega, rfl, by omega⟩⟩, fun h2 => ?_⟩
  rw [show l.length - 1 = k by omega]
  exact .pure _ rfl
theorem maxK_le {l : List Int} : ∀ k j, j ≤ k → l.getD j default ≤ maxK l k
  | 0, j, h => by rw [show j = 0 by omega]; exact Int.le_refl _
  | k + 1, j, h => by
    simp only [maxK]
    rcases Nat.lt_or_ge j (k + 1) with h1 | h1
    · have := maxK_le (l := l) k j (by omega)
      omega
    · rw [show j = k + 1 by omega]; omega
theorem maxK_mem {l : List Int} : ∀ k, ∃ j, j ≤ k ∧ maxK l k = l.getD j default
  | 0 => ⟨0, Nat.le_refl _, rfl⟩
  | k + 1 => by
    obtain ⟨j, h1, h2⟩ := maxK_mem (l := l) k
    simp only [maxK]
    rcases Int.lt_or_le (maxK l k) (l.getD (k + 1) default) with h3 | h3
    · exact ⟨k + 1, Nat.le_refl _, by omega⟩
    · exact ⟨j, by omega, by omega⟩
def Clo (c : FuncId) : Prop := ∀ {w v : Int} {h : Heap} {vid : Nat} {exv : Bool} {Q : AV → Heap → Prop}, h[vid]? = some (.arr 1 [[.int .i64 v]] exv) → Q (.bool (decide (w = v))) h → ACalls Try.prog c [.int .i64 w, .op vid 1 0 0] h Q
theorem clo79 : Clo 79 := by
  intro w v h vid exv Q hv hq
  refine wp79 rfl rfl ?_
  simp (maxSteps := 4000000) +contextual only [↓packA0, ↓packA1, ↓packA2, ↓reduceIte, packB0, packB1, packB2, packB3, packB4, pureOp, quietOp, loadOp, quietB, fr0, cellsK, Option.getD_some, Option.getD_none, implies_true, ite_true, ite_false, eq_self, ne_eq, reduceCtorEq, Nat.reduceLT, Nat.reduceLeDiff, Nat.reduceAdd, Nat.reduceMul, Nat.reduceBEq, Nat.reduceEqDiff, Int.reduceToNat, Int.reduceLT, Int.reduceLE, Nat.reduceSub, pl79, tsize_3, tbytes_3, tagg_3, zcells_3, telem_3, tint_3, tnotIface_3, hv]
  rw [show (w == v) = decide (w = v) from rfl]
  exact hq
theorem clo80 : Clo 80 := by
  intro w v h vid exv Q hv hq
  refine wp80 rfl rfl ?_
  simp (maxSteps := 4000000) +contextual only [↓packA0, ↓packA1, ↓packA2, ↓reduceIte, packB0, packB1, packB2, packB3, packB4, pureOp, quietOp, loadOp, quietB, fr0, cellsK, Option.getD_some, Option.getD_none, implies_true, ite_true, ite_false, eq_self, ne_eq, reduceCtorEq, Nat.reduceLT, Nat.reduceLeDiff, Nat.reduceAdd, Nat.reduceMul, Nat.reduceBEq, Nat.reduceEqDiff, Int.reduceToNat, Int.reduceLT, Int.reduceLE, Nat.reduceSub, pl80, tsize_3, tbytes_3, tagg_3, zcells_3, telem_3, tint_3, tnotIface_3, hv]
  rw [show (w == v) = decide (w = v) from rfl]
  exact hq
set_option maxRecDepth 100000 in
theorem index_c {c : FuncId} (hclo : Clo c) {h : Heap} {id vid len cap : Nat} {ex ex' exv : Bool} {es : List Int} {v : Int} {Q : AV → Heap → Prop} (hb : es.length < 1000000000) (hid : h[id]? = some (.arr 1 (List.map intE es) ex')) (hvid : h[vid]? = some (.arr 1 [[.int .i64 v]] exv)) (hl : len ≤ es.length)
    (hq : ∀ k : Int, (k = -1 ∧ ∀ j, j < len → es.getD j default ≠ v) ∨ (∃ i : Nat, k = i ∧ i < len ∧ es.getD i default = v ∧ ∀ j, j < i → es.getD j default ≠ v) → Q (.int .i64 k) h) :
    ACalls Try.prog 100 [.osl id 1 0 len cap ex, .fn (.func c) [] [.op vid 1 0 0]] h Q := by
  refine wp100 rfl rfl ?_
  simp (maxSteps := 4000000) +contextual only [↓packA0, ↓packA1, ↓packA2, ↓reduceIte, packB0, packB1, packB2, packB3, packB4, pureOp, quietOp, loadOp, quietB, fr0, cellsK, Option.getD_some, Option.getD_none, implies_true, ite_true, ite_false, eq_self, ne_eq, reduceCtorEq, Nat.reduceLT, Nat.reduceLeDiff, Nat.reduceAdd, Nat.reduceMul, Nat.reduceBEq, Nat.reduceEqDiff, Int.reduceToNat, Int.reduceLT, Int.reduceLE, Nat.reduceSub, pl100, tsize_3, tbytes_3, tagg_3, zcells_3, telem_3, tint_3, tnotIface_3, tsize_23, tbytes_23, tagg_23, zcells_23, telem_23, tnotIface_23]
  refine LoopK.intro (fun m a h1 => ∃ k : Nat, m = len - k ∧ k ≤ len ∧ (∀ j, j < k → es.getD j default ≠ v) ∧ a 0 = .osl id 1 0 len cap ex ∧ a 1 = .fn (.func c) [] [.op vid 1 0 0] ∧ a 7 = .int .i64 len ∧ a 8 = .int .i64 k ∧ h1 = h) len ⟨0, rfl, Nat.zero_le _, fun j hj => absurd hj (Nat.not_lt_zero _), ?_⟩ ?_
  · simp (maxSteps := 4000000) +contextual only [↓packA0, ↓packA1, ↓packA2, ↓reduceIte, packB0, packB1, packB2, packB3, packB4, pureOp, quietOp, loadOp, quietB, fr0, cellsK, Option.getD_some, Option.getD_none, implies_true, ite_true, ite_false, eq_self, ne_eq, reduceCtorEq, Nat.reduceLT, Nat.reduceLeDiff, Nat.reduceAdd, Nat.reduceMul, Nat.reduceBEq, Nat.reduceEqDiff, Int.reduceToNat, Int.reduceLT, Int.reduceLE, Nat.reduceSub, pl100, tsize_3, tbytes_3, tagg_3, zcells_3, telem_3, tint_3, tnotIface_3, tsize_23, tbytes_23, tagg_23, zcells_23, telem_23, tnotIface_23, Int.natCast_zero]
  rintro m a h1 ⟨k, rfl, hk, hj, a0, a1, a7, a8, rfl⟩
  simp (maxSteps := 4000000) +contextual only [↓packA0, ↓packA1, ↓packA2, ↓reduceIte, packB0, packB1, packB2, packB3, packB4, pureOp, quietOp, loadOp, quietB, fr0, cellsK, Option.getD_some, Option.getD_none, implies_true, ite_true, ite_false, eq_self, ne_eq, reduceCtorEq, Nat.reduceLT, Nat.reduceLeDiff, Nat.reduceAdd, Nat.reduceMul, Nat.reduceBEq, Nat.reduceEqDiff, Int.reduceToNat, Int.reduceLT, Int.reduceLE, Nat.reduceSub, pl100, tsize_3, tbytes_3, tagg_3, zcells_3, telem_3, tint_3, tnotIface_3, tsize_23, tbytes_23, tagg_23, zcells_23, telem_23, tnotIface_23, a0, a1, a7, a8, hid]
  refine ⟨fun h2 => ⟨by omega, by omega, hclo hvid ?_⟩, fun h2 => hq _ (.inl ⟨rfl, fun j h3 => hj j (by omega)⟩)⟩
  simp (maxSteps := 4000000) +contextual only [↓packA0, ↓packA1, ↓packA2, ↓reduceIte, packB0, packB1, packB2, packB3, packB4, pureOp, quietOp, loadOp, quietB, fr0, cellsK, Option.getD_some, Option.getD_none, implies_true, ite_true, ite_false, eq_self, ne_eq, reduceCtorEq, Nat.reduceLT, Nat.reduceLeDiff, Nat.reduceAdd, Nat.reduceMul, Nat.reduceBEq, Nat.reduceEqDiff, Int.reduceToNat, Int.reduceLT, Int.reduceLE, Nat.reduceSub, pl100, tsize_3, tbytes_3, tagg_3, zcells_3, telem_3, tint_3, tnotIface_3, tsize_23, tbytes_23, tagg_23, zcells_23, telem_23, tnotIface_23, a0, a1, a7, a8, hid]
  refine ⟨fun h3 => hq _ (.inr ⟨k, rfl, by omega, h3, hj⟩), fun h3 => ⟨by omega, .inl ⟨len - (k + 1), by omega, k + 1, rfl, by omega, fun j h4 => ?_, by omega⟩⟩⟩
  rcases Nat.lt_or_ge j k with h5 | h5
  · exact hj j h5
  · rw [show j = k by omega]; exact h3
end Go.Proofs.Ytgdlkhgfehclpaa
