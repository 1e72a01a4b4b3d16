/- Search in a row, find, Has. No condition. -/
import Derived.Test.YtgdlkhgfehclpaaPOh
namespace Go.Proofs.Ytgdlkhgfehclpaa
open Go Go.AL
set_option linter.unusedVariables false
set_option linter.unusedSimpArgs false
def bp (c : Int) : List Int → Nat
  | [] => 0
  | x :: l => if x < c then bp c l + 1 else 0
theorem bp_eq {c : Int} : ∀ (l : List Int) (i : Nat), (∀ k, k < i → l.getD k default < c) → i ≤ l.length → (i < l.length → c ≤ l.getD i default) → bp c l = i
  | [], i, _, h, _ => by simp at h; simp [bp, h]
  | x :: l, 0, h0, h1, h2 => by
    have := h2 (by simp)
    simp at this
    simp only [bp]
    rw [if_neg (by omega)]
  | x :: l, i + 1, h0, h1, h2 => by
    have h3 := h0 0 (by omega)
    simp at h3
    simp only [bp]
    rw [if_pos h3, bp_eq l i (fun k hk => by have := h0 (k + 1) (by omega); simpa using this) (by simpa using h1) (fun hi => by have := h2 (by simpa using hi); simpa using this)]
theorem row_mono {w : Int} {l : List Int} (h : rowOK w l) : ∀ (d i : Nat), i + d < l.length → l.getD i default ≤ l.getD (i + d) default
  | 0, i, _ => Int.le_refl _
  | d + 1, i, hi => by
    have h1 := row_mono h d i (by omega)
    have h2 := (h (i + d + 1) (by omega)).1
    simp only [prv] at h2
    rw [if_neg (by omega), show i + d + 1 - 1 = i + d by omega] at h2
    rw [show i + (d + 1) = i + d + 1 by omega]
    omega
theorem row_lt {w : Int} {l : List Int} (h : rowOK w l) {i j : Nat} (hij : i < j) (hj : j < l.length) : l.getD i default < l.getD j default := by
  have h1 := row_mono h (j - 1 - i) i (by omega)
  rw [show i + (j - 1 - i) = j - 1 by omega] at h1
  have h2 := (h j hj).1
  simp only [prv] at h2
  rw [if_neg (by omega)] at h2
  omega
theorem row_nonneg {w : Int} {l : List Int} (h : rowOK w l) {i : Nat} (hi : i < l.length) : 0 ≤ l.getD i default := by
  have h1 := row_mono h i 0 (by omega)
  have h2 := (h 0 (by omega)).1
  simp only [prv, if_pos] at h2
  rw [show 0 + i = i by omega] at h1
  omega
theorem mem_getD {l : List Int} {c : Int} : c ∈ l ↔ ∃ i, i < l.length ∧ l.getD i default = c := by
  constructor
  · intro h
    obtain ⟨i, hi, e⟩ := List.getElem_of_mem h
    exact ⟨i, hi, by simp [List.getD_eq_getElem?_getD, List.getElem?_eq_getElem hi, e]⟩
  · rintro ⟨i, hi, e⟩
    simp [List.getD_eq_getElem?_getD, List.getElem?_eq_getElem hi] at e
    rw [← e]
    exact List.getElem_mem hi
set_option maxRecDepth 100000 in
theorem search_c (w : Int) (l : List Int) (c : Int) (hb : l.length < 1000000000) (h : rowOK w l) : APure Try.prog 115 [ints l, .int .i64 c] (.tup [.int .i64 (bp c l), .bool (decide (c ∈ l))]) := by
  refine apure_of (wp115 rfl rfl ?_)
  simp (maxSteps := 4000000) +contextual only [↓packA0, ↓packA1, ↓packA2, ↓reduceIte, packB0, packB1, packB2, packB3, packB4, pureOp, quietOp, loadOp, quietB, fr0, cellsK, Option.getD_some, Option.getD_none, implies_true, ite_true, ite_false, eq_self, ne_eq, reduceCtorEq, Nat.reduceLT, Nat.reduceLeDiff, Nat.reduceAdd, Nat.reduceMul, Nat.reduceBEq, Nat.reduceEqDiff, Int.reduceToNat, Int.reduceLT, Int.reduceLE, Nat.reduceSub, pl115, tsize_3, tbytes_3, tagg_3, zcells_3, telem_3, tint_3, tnotIface_3, tsize_23, tbytes_23, tagg_23, zcells_23, telem_23, tnotIface_23, tsize_173, tbytes_173, tagg_173, zcells_173, telem_173, tint_173, tnotIface_173, ints]
  refine LoopK.intro (fun m a h => ∃ i j : Nat, m = j - i ∧ i ≤ j ∧ j ≤ l.length ∧ (∀ k, k < i → l.getD k default < c) ∧ (∀ k, j ≤ k → k < l.length → c ≤ l.getD k default) ∧ a 0 = ints l ∧ a 1 = .int .i64 c ∧ a 6 = .int .i64 l.length ∧ a 7 = .int .i64 i ∧ a 8 = .int .i64 j ∧ h = []) l.length ⟨0, l.length, rfl, by omega, by omega, fun k hk => by omega, fun k h1 h2 => by omega, ?_⟩ ?_
  · simp (maxSteps := 4000000) +contextual only [↓packA0, ↓packA1, ↓packA2, ↓reduceIte, packB0, packB1, packB2, packB3, packB4, pureOp, quietOp, loadOp, quietB, fr0, cellsK, Option.getD_some, Option.getD_none, implies_true, ite_true, ite_false, eq_self, ne_eq, reduceCtorEq, Nat.reduceLT, Nat.reduceLeDiff, Nat.reduceAdd, Nat.reduceMul, Nat.reduceBEq, Nat.reduceEqDiff, Int.reduceToNat, Int.reduceLT, Int.reduceLE, Nat.reduceSub, pl115, tsize_3, tbytes_3, tagg_3, zcells_3, telem_3, tint_3, tnotIface_3, tsize_23, tbytes_23, tagg_23, zcells_23, telem_23, tnotIface_23, tsize_173, tbytes_173, tagg_173, zcells_173, telem_173, tint_173, tnotIface_173, ints, Int.natCast_zero]
  rintro m a h1 ⟨i, j, rfl, hij, hj, hlo, hhi, a0, a1, a6, a7, a8, rfl⟩
  have hm : (IntKind.u64.wrap ((i : Int) + (j : Int))).fdiv (2 ^ min 1 IntKind.u64.bits) = (((i + j) / 2 : Nat) : Int) := by
    have e : IntKind.u64.wrap ((i : Int) + (j : Int)) = (i : Int) + j := by
      simp [IntKind.wrap, IntKind.bits, IntKind.signed]
      omega
    rw [e, show (2 : Int) ^ min 1 IntKind.u64.bits = 2 from rfl, Int.fdiv_eq_ediv_of_nonneg _ (by omega)]
    omega
  simp (maxSteps := 4000000) +contextual only [↓packA0, ↓packA1, ↓packA2, ↓reduceIte, packB0, packB1, packB2, packB3, packB4, pureOp, quietOp, loadOp, quietB, fr0, cellsK, Option.getD_some, Option.getD_none, implies_true, ite_true, ite_false, eq_self, ne_eq, reduceCtorEq, Nat.reduceLT, Nat.reduceLeDiff, Nat.reduceAdd, Nat.reduceMul, Nat.reduceBEq, Nat.reduceEqDiff, Int.reduceToNat, Int.reduceLT, Int.reduceLE, Nat.reduceSub, pl115, tsize_3, tbytes_3, tagg_3, zcells_3, telem_3, tint_3, tnotIface_3, tsize_23, tbytes_23, tagg_23, zcells_23, telem_23, tnotIface_23, tsize_173, tbytes_173, tagg_173, zcells_173, telem_173, tint_173, tnotIface_173, ints, a0, a1, a6, a7, a8, hm]
  refine ⟨fun h2 => ⟨by omega, by omega, by omega, by omega, acalls_pure (less_c _ _) rfl ?_⟩, fun h2 => ?_⟩
  · simp (maxSteps := 4000000) +contextual only [↓packA0, ↓packA1, ↓packA2, ↓reduceIte, packB0, packB1, packB2, packB3, packB4, pureOp, quietOp, loadOp, quietB, fr0, cellsK, Option.getD_some, Option.getD_none, implies_true, ite_true, ite_false, eq_self, ne_eq, reduceCtorEq, Nat.reduceLT, Nat.reduceLeDiff, Nat.reduceAdd, Nat.reduceMul, Nat.reduceBEq, Nat.reduceEqDiff, Int.reduceToNat, Int.reduceLT, Int.reduceLE, Nat.reduceSub, pl115, tsize_3, tbytes_3, tagg_3, zcells_3, telem_3, tint_3, tnotIface_3, tsize_23, tbytes_23, tagg_23, zcells_23, telem_23, tnotIface_23, tsize_173, tbytes_173, tagg_173, zcells_173, telem_173, tint_173, tnotIface_173, ints, a0, a1, a6, a7, a8, hm]
    refine ⟨fun h3 => ⟨by omega, .inl ⟨j - ((i + j) / 2 + 1), by omega, (i + j) / 2 + 1, j, by omega, by omega, hj, fun k hk => ?_, hhi, by omega, rfl⟩⟩, fun h3 => .inl ⟨(i + j) / 2 - i, by omega, i, (i + j) / 2, by omega, by omega, by omega, hlo, fun k hk1 hk2 => ?_, by omega, rfl⟩⟩
    · rcases Nat.lt_or_ge k ((i + j) / 2) with h4 | h4
      · have := row_lt h h4 (by omega)
        omega
      · rw [show k = (i + j) / 2 by omega]; exact h3
    · have := row_mono h (k - (i + j) / 2) ((i + j) / 2) (by omega)
      rw [show (i + j) / 2 + (k - (i + j) / 2) = k by omega] at this
      omega
  · obtain rfl : i = j := by omega
    have hbp : bp c l = i := bp_eq l i hlo hj (fun hi => hhi i (Nat.le_refl _) hi)
    have hmem : c ∈ l ↔ i < l.length ∧ l.getD i default = c := by
      rw [mem_getD]
      constructor
      · rintro ⟨k, hk, e⟩
        rcases Nat.lt_trichotomy k i with h4 | h4 | h4
        · have := hlo k h4
          omega
        · subst h4; exact ⟨hk, e⟩
        · have h5 := hhi i (Nat.le_refl _) (by omega)
          have h6 := row_lt h h4 hk
          omega
      · rintro ⟨h1, h2⟩; exact ⟨i, h1, h2⟩
    rw [hbp]
    refine ⟨fun h3 => ⟨by omega, by omega, fun h4 => ?_, fun h4 => ⟨by omega, by omega, acalls_pure (nan2_c _) rfl ?_⟩⟩, fun h3 => ?_⟩
    · rw [decide_eq_true (hmem.2 ⟨by omega, h4⟩)]; exact .pure _ rfl
    · simp (maxSteps := 4000000) +contextual only [↓packA0, ↓packA1, ↓packA2, ↓reduceIte, packB0, packB1, packB2, packB3, packB4, pureOp, quietOp, loadOp, quietB, fr0, cellsK, Option.getD_some, Option.getD_none, implies_true, ite_true, ite_false, eq_self, ne_eq, reduceCtorEq, Nat.reduceLT, Nat.reduceLeDiff, Nat.reduceAdd, Nat.reduceMul, Nat.reduceBEq, Nat.reduceEqDiff, Int.reduceToNat, Int.reduceLT, Int.reduceLE, Nat.reduceSub, pl115, tsize_3, tbytes_3, tagg_3, zcells_3, telem_3, tint_3, tnotIface_3, tsize_23, tbytes_23, tagg_23, zcells_23, telem_23, tnotIface_23, tsize_173, tbytes_173, tagg_173, zcells_173, telem_173, tint_173, tnotIface_173, ints, a0, a1, a6, a7, a8, h3, h4]
      rw [decide_eq_false (fun hc => h4 (hmem.1 hc).2)]; exact .pure _ rfl
    · rw [decide_eq_false (fun hc => h3 (by have := (hmem.1 hc).1; omega))]; exact .pure _ rfl
/-- What find answers. -/
theorem may_row {rows width : Int} {st cs : List Int} (h : mayP rows width st cs) {r : Nat} (hr : r < rows.toNat) : 0 ≤ st.getD r default ∧ st.getD r default ≤ st.getD (r + 1) default ∧ st.getD (r + 1) default ≤ cs.length ∧ rowOK width (rowOf st cs r) ∧ (rowOf st cs r).length = (st.getD (r + 1) default).toNat - (st.getD r default).toNat ∧ r + 1 < st.length ∧ rows ≤ 128 := by
  have h1 := row_bounds h.1.1 h.2.2.1 h.2.2.2.1 h.2.2.2.2.1 h.2.2.2.2.2.1 hr
  have h2 := h.2.2.1
  have h3 := h.1.2
  exact ⟨h1.1, h1.2.1, h1.2.2, h.2.2.2.2.2.2 r hr, rowOf_length h1.1 h1.2.1 h1.2.2, by omega, h3⟩
theorem row_isl {st cs : List Int} {r : Nat} : AV.isl 1 (((List.map intE cs).drop (st.getD r default).toNat).take ((st.getD (r + 1) default).toNat - (st.getD r default).toNat)) = ints (rowOf st cs r) := by simp [ints, rowOf, List.map_take, List.map_drop]
set_option maxRecDepth 100000 in
theorem find_c (rows width : Int) (st cs : List Int) (hb : st.length < 1000000000) (hb2 : cs.length < 1000000000) (h : mayP rows width st cs) (r : Nat) (hr : r < rows.toNat) (c : Int) :
    APure Try.prog 99 [pat rows width st cs, .int .i64 r, .int .i64 c] (.tup [.int .i64 (st.getD r default + bp c (rowOf st cs r)), .bool (decide (c ∈ rowOf st cs r))]) := by
  obtain ⟨h1, h2, h3, h4, h5, h6, h7⟩ := may_row h hr
  have hbl : bp c (rowOf st cs r) ≤ (rowOf st cs r).length := by
    have : ∀ l : List Int, bp c l ≤ l.length := by
      intro l
      induction l with
      | nil => simp [bp]
      | cons x l ih => simp only [bp, List.length_cons]; split <;> omega
    exact this _
  refine apure_of (wp99 rfl rfl ?_)
  simp (maxSteps := 4000000) +contextual only [↓packA0, ↓packA1, ↓packA2, ↓reduceIte, packB0, packB1, packB2, packB3, packB4, pureOp, quietOp, loadOp, quietB, fr0, cellsK, Option.getD_some, Option.getD_none, implies_true, ite_true, ite_false, eq_self, ne_eq, reduceCtorEq, Nat.reduceLT, Nat.reduceLeDiff, Nat.reduceAdd, Nat.reduceMul, Nat.reduceBEq, Nat.reduceEqDiff, Int.reduceToNat, Int.reduceLT, Int.reduceLE, Nat.reduceSub, pl99, tsize_2, tbytes_2, tagg_2, zcells_2, telem_2, tint_2, tnotIface_2, tsize_3, tbytes_3, tagg_3, zcells_3, telem_3, tint_3, tnotIface_3, tsize_23, tbytes_23, tagg_23, zcells_23, telem_23, tnotIface_23, tsize_45, tbytes_45, tagg_45, zcells_45, telem_45, tnotIface_45, foff_45_0, foff_45_1, foff_45_2, foff_45_3, fplaces_45, ints]
  refine ⟨fun h8 => ?_, fun h8 => ?_⟩
  · omega
  · refine ⟨fun h9 => absurd h9 (by omega), fun h9 => ⟨by omega, by omega, by omega, by omega, by omega, by omega, by omega, ⟨by omega, by omega⟩, ?_⟩⟩
    rw [row_isl]
    refine acalls_pure (search_c width _ c (by omega) h4) rfl ?_
    simp (maxSteps := 4000000) +contextual only [↓packA0, ↓packA1, ↓packA2, ↓reduceIte, packB0, packB1, packB2, packB3, packB4, pureOp, quietOp, loadOp, quietB, fr0, cellsK, Option.getD_some, Option.getD_none, implies_true, ite_true, ite_false, eq_self, ne_eq, reduceCtorEq, Nat.reduceLT, Nat.reduceLeDiff, Nat.reduceAdd, Nat.reduceMul, Nat.reduceBEq, Nat.reduceEqDiff, Int.reduceToNat, Int.reduceLT, Int.reduceLE, Nat.reduceSub, pl99, tsize_2, tbytes_2, tagg_2, zcells_2, telem_2, tint_2, tnotIface_2, tsize_3, tbytes_3, tagg_3, zcells_3, telem_3, tint_3, tnotIface_3, tsize_23, tbytes_23, tagg_23, zcells_23, telem_23, tnotIface_23, tsize_45, tbytes_45, tagg_45, zcells_45, telem_45, tnotIface_45, foff_45_0, foff_45_1, foff_45_2, foff_45_3, fplaces_45, ints, row_isl]
    refine ⟨by omega, by omega, by omega, ?_⟩
    exact .pure _ rfl
set_option maxRecDepth 100000 in
theorem has_c (rows width : Int) (st cs : List Int) (hb : st.length < 1000000000) (hb2 : cs.length < 1000000000) (h : mayP rows width st cs) (r : Nat) (hr : r < rows.toNat) (c : Int) :
    APure Try.prog 75 [pat rows width st cs, .int .i64 r, .int .i64 c] (.bool (decide (c ∈ rowOf st cs r))) := by
  refine apure_of (wp75 rfl rfl ?_)
  simp (maxSteps := 4000000) +contextual only [↓packA0, ↓packA1, ↓packA2, ↓reduceIte, packB0, packB1, packB2, packB3, packB4, pureOp, quietOp, loadOp, quietB, fr0, cellsK, Option.getD_some, Option.getD_none, implies_true, ite_true, ite_false, eq_self, ne_eq, reduceCtorEq, Nat.reduceLT, Nat.reduceLeDiff, Nat.reduceAdd, Nat.reduceMul, Nat.reduceBEq, Nat.reduceEqDiff, Int.reduceToNat, Int.reduceLT, Int.reduceLE, Nat.reduceSub, pl75, tsize_3, tbytes_3, tagg_3, zcells_3, telem_3, tint_3, tnotIface_3, tsize_4, tbytes_4, tagg_4, zcells_4, telem_4, tbool_4, tnotIface_4, tsize_23, tbytes_23, tagg_23, zcells_23, telem_23, tnotIface_23, tsize_45, tbytes_45, tagg_45, zcells_45, telem_45, tnotIface_45, foff_45_0, foff_45_1, foff_45_2, foff_45_3, fplaces_45, ints]
  refine acalls_pure (may_c rows width st cs hb hb2) rfl ?_
  simp (maxSteps := 4000000) +contextual only [↓packA0, ↓packA1, ↓packA2, ↓reduceIte, packB0, packB1, packB2, packB3, packB4, pureOp, quietOp, loadOp, quietB, fr0, cellsK, Option.getD_some, Option.getD_none, implies_true, ite_true, ite_false, eq_self, ne_eq, reduceCtorEq, Nat.reduceLT, Nat.reduceLeDiff, Nat.reduceAdd, Nat.reduceMul, Nat.reduceBEq, Nat.reduceEqDiff, Int.reduceToNat, Int.reduceLT, Int.reduceLE, Nat.reduceSub, pl75, tsize_3, tbytes_3, tagg_3, zcells_3, telem_3, tint_3, tnotIface_3, tsize_4, tbytes_4, tagg_4, zcells_4, telem_4, tbool_4, tnotIface_4, tsize_23, tbytes_23, tagg_23, zcells_23, telem_23, tnotIface_23, tsize_45, tbytes_45, tagg_45, zcells_45, telem_45, tnotIface_45, foff_45_0, foff_45_1, foff_45_2, foff_45_3, fplaces_45, ints, h]
  refine acalls_pure (find_c rows width st cs hb hb2 h r hr c) rfl ?_
  simp (maxSteps := 4000000) +contextual only [↓packA0, ↓packA1, ↓packA2, ↓reduceIte, packB0, packB1, packB2, packB3, packB4, pureOp, quietOp, loadOp, quietB, fr0, cellsK, Option.getD_some, Option.getD_none, implies_true, ite_true, ite_false, eq_self, ne_eq, reduceCtorEq, Nat.reduceLT, Nat.reduceLeDiff, Nat.reduceAdd, Nat.reduceMul, Nat.reduceBEq, Nat.reduceEqDiff, Int.reduceToNat, Int.reduceLT, Int.reduceLE, Nat.reduceSub, pl75, tsize_3, tbytes_3, tagg_3, zcells_3, telem_3, tint_3, tnotIface_3, tsize_4, tbytes_4, tagg_4, zcells_4, telem_4, tbool_4, tnotIface_4, tsize_23, tbytes_23, tagg_23, zcells_23, telem_23, tnotIface_23, tsize_45, tbytes_45, tagg_45, zcells_45, telem_45, tnotIface_45, foff_45_0, foff_45_1, foff_45_2, foff_45_3, fplaces_45, ints, h]
  exact .pure _ rfl
theorem find_i (rows width : Int) (st cs : List Int) (hb : st.length < 1000000000) (hb2 : cs.length < 1000000000) (h : mayP rows width st cs) (r : Int) (h0 : 0 ≤ r) (hr : r < rows) (c : Int) :
    APure Try.prog 99 [pat rows width st cs, .int .i64 r, .int .i64 c] (.tup [.int .i64 (st.getD r.toNat default + bp c (rowOf st cs r.toNat)), .bool (decide (c ∈ rowOf st cs r.toNat))]) := by
  have := find_c rows width st cs hb hb2 h r.toNat (by omega) c
  rw [show ((r.toNat : Nat) : Int) = r by omega] at this
  exact this
theorem row_getD {rows width : Int} {st cs : List Int} (h : mayP rows width st cs) {r : Nat} (hr : r < rows.toNat) {j : Nat} (hj : j < (rowOf st cs r).length) : (rowOf st cs r).getD j default = cs.getD ((st.getD r default).toNat + j) default := by
  obtain ⟨h1, h2, h3, h4, h5, h6, h7⟩ := may_row h hr
  rw [h5] at hj
  simp only [List.getD_eq_getElem?_getD] at hj
  simp only [rowOf, List.getD_eq_getElem?_getD, List.getElem?_take, List.getElem?_drop]
  rw [if_pos hj]
end Go.Proofs.Ytgdlkhgfehclpaa
