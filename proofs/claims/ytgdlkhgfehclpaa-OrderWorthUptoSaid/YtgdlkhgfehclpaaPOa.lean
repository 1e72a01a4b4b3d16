import Derived.Test.YtgdlkhgfehclpaaFns
import Derived.Test.YtgdlkhgfehclpaaALt
namespace Go.Proofs.Ytgdlkhgfehclpaa
open Go Go.AL
set_option linter.unusedVariables false
set_option linter.unusedSimpArgs false
theorem take_set {xs : List Int} {k m m' : Nat} {z : Int} (hk : k < xs.length) (hm : m = m' + 1) : (List.take k xs ++ List.replicate m z).set k (xs.getD k default) = List.take (k + 1) xs ++ List.replicate m' z := by
  subst hm
  apply List.ext_getElem?
  intro i
  rw [List.getElem?_set]
  simp only [List.length_append, List.length_take, List.length_replicate, List.getD_eq_getElem?_getD, List.getElem?_eq_getElem hk, Option.getD_some]
  by_cases h1 : k = i
  · subst h1
    rw [if_pos rfl, if_pos (by omega), List.getElem?_append_left (by simp; omega), List.getElem?_take_of_lt (by omega), List.getElem?_eq_getElem hk]
  · rw [if_neg h1]
    by_cases h2 : i < k
    · rw [List.getElem?_append_left (by simp; omega), List.getElem?_append_left (by simp; omega), List.getElem?_take_of_lt h2, List.getElem?_take_of_lt (by omega)]
    · rw [List.getElem?_append_right (by simp; omega), List.getElem?_append_right (by simp; omega), List.getElem?_replicate, List.getElem?_replicate]
      simp only [List.length_take]
      have e : (i - min k xs.length < m' + 1) ↔ (i - min (k + 1) xs.length < m') := by omega
      by_cases h3 : i - min k xs.length < m' + 1
      · rw [if_pos h3, if_pos (e.1 h3)]
      · rw [if_neg h3, if_neg (fun h => h3 (e.2 h))]
theorem list_ext_getD {xs ys : List Int} (hl : xs.length = ys.length) (h : ∀ j, j < xs.length → xs.getD j default = ys.getD j default) : xs = ys := by
  apply List.ext_getElem hl
  intro i h1 h2
  have := h i h1
  simpa [List.getD_eq_getElem?_getD, List.getElem?_eq_getElem h1, List.getElem?_eq_getElem h2] using this
set_option maxRecDepth 100000 in
theorem same_pure (xs ys : List Int) (hb : xs.length < 1000000000) : APure Try.prog 31 [ints xs, ints ys] (.bool (decide (xs = ys))) := by
  refine apure_of (wp31 rfl rfl ?_)
  simp (maxSteps := 4000000) only [↓packA0, ↓packA1, ↓packA2, ↓reduceIte, packB0, packB1, packB2, packB3, packB4, pureOp, quietOp, loadOp, quietB, fr0, cellsK, Option.getD_some, Option.getD_none, implies_true, ite_true, ite_false, eq_self, ne_eq, reduceCtorEq, Nat.reduceLT, Nat.reduceLeDiff, Nat.reduceAdd, Nat.reduceMul, Nat.reduceBEq, Nat.reduceEqDiff, Int.reduceToNat, Int.reduceLT, Int.reduceLE, Nat.reduceSub, pl31, tsize_3, tbytes_3, tagg_3, zcells_3, telem_3, tint_3, tnotIface_3, tsize_23, tbytes_23, tagg_23, zcells_23, telem_23, tnotIface_23, ints]
  refine ⟨fun h => ?_, fun h => LoopK.intro (fun m a h => ∃ k : Nat, m = xs.length - k ∧ k ≤ xs.length ∧ (∀ j, j < k → xs.getD j default = ys.getD j default) ∧ a 5 = .int .i64 k ∧ a 0 = ints xs ∧ a 1 = ints ys ∧ h = []) xs.length ⟨0, rfl, Nat.zero_le _, fun j hj => absurd hj (Nat.not_lt_zero j), ?_⟩ ?_⟩
  · have : decide (xs = ys) = false := by simp; intro e; subst e; exact h rfl
    rw [this]; exact .pure _ rfl
  · simp (maxSteps := 4000000) only [↓packA0, ↓packA1, ↓packA2, ↓reduceIte, packB0, packB1, packB2, packB3, packB4, pureOp, quietOp, loadOp, quietB, fr0, cellsK, Option.getD_some, Option.getD_none, implies_true, ite_true, ite_false, eq_self, ne_eq, reduceCtorEq, Nat.reduceLT, Nat.reduceLeDiff, Nat.reduceAdd, Nat.reduceMul, Nat.reduceBEq, Nat.reduceEqDiff, Int.reduceToNat, Int.reduceLT, Int.reduceLE, Nat.reduceSub, pl31, tsize_3, tbytes_3, tagg_3, zcells_3, telem_3, tint_3, tnotIface_3, tsize_23, tbytes_23, tagg_23, zcells_23, telem_23, tnotIface_23, ints, Int.natCast_zero]
  · rintro m a h1 ⟨k, rfl, hk, hj, a5, a0, a1, rfl⟩
    simp (maxSteps := 4000000) only [↓packA0, ↓packA1, ↓packA2, ↓reduceIte, packB0, packB1, packB2, packB3, packB4, pureOp, quietOp, loadOp, quietB, fr0, cellsK, Option.getD_some, Option.getD_none, implies_true, ite_true, ite_false, eq_self, ne_eq, reduceCtorEq, Nat.reduceLT, Nat.reduceLeDiff, Nat.reduceAdd, Nat.reduceMul, Nat.reduceBEq, Nat.reduceEqDiff, Int.reduceToNat, Int.reduceLT, Int.reduceLE, Nat.reduceSub, pl31, tsize_3, tbytes_3, tagg_3, zcells_3, telem_3, tint_3, tnotIface_3, tsize_23, tbytes_23, tagg_23, zcells_23, telem_23, tnotIface_23, ints, a0, a1, a5]
    have hl : xs.length = ys.length := by omega
    refine ⟨fun h2 => ⟨by omega, by omega, by omega, by omega, fun h3 => ?_, fun h3 => ⟨by omega, .inl ⟨xs.length - (k + 1), by omega, k + 1, rfl, by omega, fun j hj2 => ?_, by omega⟩⟩⟩, fun h2 => ?_⟩
    · have : decide (xs = ys) = false := by simp; intro e; subst e; exact h3 rfl
      rw [this]; exact .pure _ rfl
    · by_cases e : j = k
      · subst e; exact h3
      · exact hj j (by omega)
    · have : decide (xs = ys) = true := by simp; exact list_ext_getD hl fun j h3 => hj j (by omega)
      rw [this]; exact .pure _ rfl
set_option maxRecDepth 100000 in
theorem copy_c (xs : List Int) (hb : xs.length < 1000000000) : ACalls Try.prog 47 [ints xs] [] fun v h => v = .osl 0 1 0 xs.length (xs.length + 3) true ∧ h = [Ob.arr 1 (List.map intE (xs ++ [0, 0, 0])) true] := by
  refine (wp47 rfl rfl ?_)
  simp (maxSteps := 4000000) only [↓packA0, ↓packA1, ↓packA2, ↓reduceIte, packB0, packB1, packB2, packB3, packB4, pureOp, quietOp, loadOp, quietB, fr0, cellsK, Option.getD_some, Option.getD_none, implies_true, ite_true, ite_false, eq_self, ne_eq, reduceCtorEq, Nat.reduceLT, Nat.reduceLeDiff, Nat.reduceAdd, Nat.reduceMul, Nat.reduceBEq, Nat.reduceEqDiff, Int.reduceToNat, Int.reduceLT, Int.reduceLE, Nat.reduceSub, pl47, tsize_3, tbytes_3, tagg_3, zcells_3, telem_3, tint_3, tnotIface_3, tsize_23, tbytes_23, tagg_23, zcells_23, telem_23, tnotIface_23, ints]
  refine ⟨by omega, by omega, LoopK.intro (fun m a h => ∃ k : Nat, m = xs.length - k ∧ k ≤ xs.length ∧ a 0 = ints xs ∧ a 3 = .osl 0 1 0 xs.length (xs.length + 3) true ∧ a 4 = .int .i64 k ∧ h = [Ob.arr 1 (List.map intE (xs.take k ++ List.replicate (xs.length + 3 - k) 0)) true]) xs.length ⟨0, rfl, Nat.zero_le _, ?_⟩ ?_⟩
  · simp (maxSteps := 4000000) only [↓packA0, ↓packA1, ↓packA2, ↓reduceIte, packB0, packB1, packB2, packB3, packB4, pureOp, quietOp, loadOp, quietB, fr0, cellsK, Option.getD_some, Option.getD_none, implies_true, ite_true, ite_false, eq_self, ne_eq, reduceCtorEq, Nat.reduceLT, Nat.reduceLeDiff, Nat.reduceAdd, Nat.reduceMul, Nat.reduceBEq, Nat.reduceEqDiff, Int.reduceToNat, Int.reduceLT, Int.reduceLE, Nat.reduceSub, pl47, tsize_3, tbytes_3, tagg_3, zcells_3, telem_3, tint_3, tnotIface_3, tsize_23, tbytes_23, tagg_23, zcells_23, telem_23, tnotIface_23, ints, Int.natCast_zero]
  · rintro m a h1 ⟨k, rfl, hk, a0, a3, a4, rfl⟩
    simp (maxSteps := 4000000) only [↓packA0, ↓packA1, ↓packA2, ↓reduceIte, packB0, packB1, packB2, packB3, packB4, pureOp, quietOp, loadOp, quietB, fr0, cellsK, Option.getD_some, Option.getD_none, implies_true, ite_true, ite_false, eq_self, ne_eq, reduceCtorEq, Nat.reduceLT, Nat.reduceLeDiff, Nat.reduceAdd, Nat.reduceMul, Nat.reduceBEq, Nat.reduceEqDiff, Int.reduceToNat, Int.reduceLT, Int.reduceLE, Nat.reduceSub, pl47, tsize_3, tbytes_3, tagg_3, zcells_3, telem_3, tint_3, tnotIface_3, tsize_23, tbytes_23, tagg_23, zcells_23, telem_23, tnotIface_23, ints, a0, a3, a4]
    have hset : k < xs.length → (List.take k xs ++ List.replicate (xs.length + 3 - k) 0).set k (xs.getD k default) = List.take (k + 1) xs ++ List.replicate (xs.length + 3 - (k + 1)) 0 := fun hk => take_set hk (by omega)
    refine ⟨fun e => ⟨by omega, by omega, by omega, by rw [List.length_take]; omega, by omega, .inl ⟨xs.length - (k + 1), by omega, k + 1, rfl, by omega, by omega, by rw [hset (by omega)]⟩⟩, fun e => ?_⟩
    have : k = xs.length := by omega
    subst this
    rw [List.take_length, Nat.add_sub_cancel_left]
    rfl
def okAt (n : Int) (xs : List Int) (i : Nat) : Prop := 0 ≤ xs.getD i default ∧ xs.getD i default < n ∧ ∀ j, j < i → xs.getD j default ≠ xs.getD i default
def ordOK (n : Int) (xs : List Int) : Prop := ∀ i, i < xs.length → okAt n xs i
open Classical in
noncomputable def checkR (n : Int) (xs : List Int) : Int := if n < 0 ∨ 128 < n then 220 else if (xs.length : Int) ≠ n then 182 else if ordOK n xs then 0 else 182
def seenOK (xs : List Int) (k : Nat) (bs : List Bool) : Prop := ∀ v : Nat, v < bs.length → (bs.getD v default = true ↔ ∃ j, j < k ∧ xs.getD j default = v)
theorem seen0 (xs : List Int) (n : Nat) : seenOK xs 0 (List.replicate n false) := fun v hv => by
  rw [List.getD_eq_getElem?_getD, List.getElem?_replicate]
  simp only [List.length_replicate] at hv
  rw [if_pos hv]
  simp
theorem seen_set {xs : List Int} {k : Nat} {bs : List Bool} (hs : seenOK xs k bs) (h0 : 0 ≤ xs.getD k default) (h1 : (xs.getD k default).toNat < bs.length) : seenOK xs (k + 1) (bs.set (xs.getD k default).toNat true) := fun v hv => by
  simp only [List.length_set] at hv
  rw [List.getD_eq_getElem?_getD, List.getElem?_set]
  by_cases e : (xs.getD k default).toNat = v
  · rw [if_pos e, if_pos h1]
    simp only [Option.getD_some, true_iff]
    exact ⟨k, by omega, by omega⟩
  · rw [if_neg e, ← List.getD_eq_getElem?_getD, hs v hv]
    constructor
    · rintro ⟨j, hj, hj2⟩; exact ⟨j, by omega, hj2⟩
    · rintro ⟨j, hj, hj2⟩
      by_cases hjk : j < k
      · exact ⟨j, hjk, hj2⟩
      · have : j = k := by omega
        subst this
        omega
set_option maxRecDepth 100000 in
theorem check_c (n : Int) (xs : List Int) : APure Try.prog 54 [.int .i64 n, ints xs] (.int .i64 (checkR n xs)) := by
  refine apure_of (wp54 rfl rfl ?_)
  simp (maxSteps := 4000000) +contextual only [↓packA0, ↓packA1, ↓packA2, ↓reduceIte, packB0, packB1, packB2, packB3, packB4, pureOp, quietOp, loadOp, quietB, fr0, cellsK, Option.getD_some, Option.getD_none, implies_true, ite_true, ite_false, eq_self, ne_eq, reduceCtorEq, Nat.reduceLT, Nat.reduceLeDiff, Nat.reduceAdd, Nat.reduceMul, Nat.reduceBEq, Nat.reduceEqDiff, Int.reduceToNat, Int.reduceLT, Int.reduceLE, Nat.reduceSub, pl54, tsize_3, tbytes_3, tagg_3, zcells_3, telem_3, tint_3, tnotIface_3, tsize_4, tbytes_4, tagg_4, zcells_4, telem_4, tbool_4, tnotIface_4, tsize_23, tbytes_23, tagg_23, zcells_23, telem_23, tnotIface_23, tsize_136, tbytes_136, tagg_136, zcells_136, telem_136, tarr_136, tnotIface_136, ints]
  refine ⟨fun h => ?_, fun h => ⟨fun h1 => ?_, fun h1 => ⟨fun h2 => ?_, fun h2 => ?_⟩⟩⟩
  · rw [show checkR n xs = 220 from if_pos (.inl h)]; exact .pure _ rfl
  · rw [show checkR n xs = 220 from if_pos (.inr h1)]; exact .pure _ rfl
  · rw [show checkR n xs = 182 by unfold checkR; rw [if_neg (by omega), if_pos h2]]; exact .pure _ rfl
  refine LoopK.intro (fun m a h => ∃ (k : Nat) (bs : List Bool), m = xs.length - k ∧ k ≤ xs.length ∧ (∀ i, i < k → okAt n xs i) ∧ bs.length = 128 ∧ seenOK xs k bs ∧ a 0 = .int .i64 n ∧ a 5 = .op 0 128 0 0 ∧ a 18 = ints xs ∧ a 19 = .int .i64 n ∧ a 20 = .int .i64 k ∧
    h = [Ob.arr 128 [List.map AV.bool bs] true]) xs.length ⟨0, List.replicate 128 false, rfl, Nat.zero_le _, fun j hj => absurd hj (Nat.not_lt_zero j), by simp, seen0 xs 128, ?_⟩ ?_
  · simp (maxSteps := 4000000) only [↓packA0, ↓packA1, ↓packA2, ↓reduceIte, packB0, packB1, packB2, packB3, packB4, pureOp, quietOp, loadOp, quietB, fr0, cellsK, Option.getD_some, Option.getD_none, implies_true, ite_true, ite_false, eq_self, ne_eq, reduceCtorEq, Nat.reduceLT, Nat.reduceLeDiff, Nat.reduceAdd, Nat.reduceMul, Nat.reduceBEq, Nat.reduceEqDiff, Int.reduceToNat, Int.reduceLT, Int.reduceLE, Nat.reduceSub, pl54, tsize_3, tbytes_3, tagg_3, zcells_3, telem_3, tint_3, tnotIface_3, tsize_4, tbytes_4, tagg_4, zcells_4, telem_4, tbool_4, tnotIface_4, tsize_23, tbytes_23, tagg_23, zcells_23, telem_23, tnotIface_23, tsize_136, tbytes_136, tagg_136, zcells_136, telem_136, tarr_136, tnotIface_136, ints, Int.natCast_zero]
  · rintro m a h3 ⟨k, bs, rfl, hk, hok, hbl, hs, a0, a5, a18, a19, a20, rfl⟩
    simp (maxSteps := 4000000) +contextual only [↓packA0, ↓packA1, ↓packA2, ↓reduceIte, packB0, packB1, packB2, packB3, packB4, pureOp, quietOp, loadOp, quietB, fr0, cellsK, Option.getD_some, Option.getD_none, implies_true, ite_true, ite_false, eq_self, ne_eq, reduceCtorEq, Nat.reduceLT, Nat.reduceLeDiff, Nat.reduceAdd, Nat.reduceMul, Nat.reduceBEq, Nat.reduceEqDiff, Int.reduceToNat, Int.reduceLT, Int.reduceLE, Nat.reduceSub, pl54, tsize_3, tbytes_3, tagg_3, zcells_3, telem_3, tint_3, tnotIface_3, tsize_4, tbytes_4, tagg_4, zcells_4, telem_4, tbool_4, tnotIface_4, tsize_23, tbytes_23, tagg_23, zcells_23, telem_23, tnotIface_23, tsize_136, tbytes_136, tagg_136, zcells_136, telem_136, tarr_136, tnotIface_136, ints, a0, a5, a18, a19, a20, hbl]
    have hbad : ¬ okAt n xs k → k < xs.length → checkR n xs = 182 := fun hn hk => by
      unfold checkR; rw [if_neg (by omega), if_neg (by omega), if_neg (fun ho => hn (ho k hk))]
    refine ⟨fun e => ⟨by omega, by omega, fun e1 => ?_, fun e1 => ⟨fun e2 => ?_, fun e2 => ⟨by omega, by omega, fun e3 => ?_, fun e3 => ⟨by omega, by omega, by omega, .inl ⟨xs.length - (k + 1), by omega, k + 1, _, rfl, by omega, ?_, by simpa using hbl, ?_, by omega, rfl⟩⟩⟩⟩⟩, fun e => ?_⟩
    · rw [hbad (fun ho => absurd ho.1 (by omega)) (by omega)]; exact .pure _ rfl
    · rw [hbad (fun ho => absurd ho.2.1 (by omega)) (by omega)]; exact .pure _ rfl
    · obtain ⟨j, hj, hj2⟩ := (hs (xs.getD k default).toNat (by omega)).1 e3
      rw [hbad (fun ho => ho.2.2 j hj (by omega)) (by omega)]; exact .pure _ rfl
    · intro i hi
      by_cases hik : i < k
      · exact hok i hik
      · have : i = k := by omega
        subst this
        refine ⟨by omega, by omega, fun j hj hjx => ?_⟩
        have := (hs (xs.getD i default).toNat (by omega)).2 ⟨j, hj, by omega⟩
        rw [this] at e3; cases e3
    · exact seen_set hs (by omega) (by omega)
    · rw [show checkR n xs = 0 by unfold checkR; rw [if_neg (by omega), if_neg (by omega), if_pos (show ordOK n xs from fun i hi => hok i (by omega))]]; exact .pure _ rfl
set_option maxRecDepth 100000 in
theorem checkr_c (n : Int) (xs : List Int) : APure Try.prog 25 [.int .i64 n, ints xs] (.int .i64 (checkR n xs)) := by
  refine apure_of (wp25 rfl rfl ?_)
  simp (maxSteps := 4000000) +contextual only [↓packA0, ↓packA1, ↓packA2, ↓reduceIte, packB0, packB1, packB2, packB3, packB4, pureOp, quietOp, loadOp, quietB, fr0, cellsK, Option.getD_some, Option.getD_none, implies_true, ite_true, ite_false, eq_self, ne_eq, reduceCtorEq, Nat.reduceLT, Nat.reduceLeDiff, Nat.reduceAdd, Nat.reduceMul, Nat.reduceBEq, Nat.reduceEqDiff, Int.reduceToNat, Int.reduceLT, Int.reduceLE, Nat.reduceSub, pl25, tsize_3, tbytes_3, tagg_3, zcells_3, telem_3, tint_3, tnotIface_3, tsize_4, tbytes_4, tagg_4, zcells_4, telem_4, tbool_4, tnotIface_4, tsize_23, tbytes_23, tagg_23, zcells_23, telem_23, tnotIface_23, tsize_52, tbytes_52, tagg_52, zcells_52, telem_52, tnotIface_52, ints]
  refine ⟨fun h => ?_, fun h => ⟨fun h1 => ?_, fun h1 => ⟨fun h2 => ?_, fun h2 => ⟨by omega, ?_⟩⟩⟩⟩
  · rw [show checkR n xs = 220 from if_pos (.inl h)]; exact .pure _ rfl
  · rw [show checkR n xs = 220 from if_pos (.inr h1)]; exact .pure _ rfl
  · rw [show checkR n xs = 182 by unfold checkR; rw [if_neg (by omega), if_pos h2]]; exact .pure _ rfl
  refine LoopK.intro (fun m a h => ∃ (k : Nat) (bs : List Bool), m = xs.length - k ∧ k ≤ xs.length ∧ (∀ i, i < k → okAt n xs i) ∧ bs.length = n.toNat ∧ seenOK xs k bs ∧ a 0 = .int .i64 n ∧ a 1 = ints xs ∧ a 5 = .osl 0 1 0 n.toNat n.toNat true ∧ a 6 = .int .i64 k ∧
    h = [Ob.arr 1 (List.map boolE bs) true]) xs.length ⟨0, List.replicate n.toNat false, rfl, Nat.zero_le _, fun j hj => absurd hj (Nat.not_lt_zero j), by simp, seen0 xs n.toNat, ?_⟩ ?_
  · simp (maxSteps := 4000000) only [↓packA0, ↓packA1, ↓packA2, ↓reduceIte, packB0, packB1, packB2, packB3, packB4, pureOp, quietOp, loadOp, quietB, fr0, cellsK, Option.getD_some, Option.getD_none, implies_true, ite_true, ite_false, eq_self, ne_eq, reduceCtorEq, Nat.reduceLT, Nat.reduceLeDiff, Nat.reduceAdd, Nat.reduceMul, Nat.reduceBEq, Nat.reduceEqDiff, Int.reduceToNat, Int.reduceLT, Int.reduceLE, Nat.reduceSub, pl25, tsize_3, tbytes_3, tagg_3, zcells_3, telem_3, tint_3, tnotIface_3, tsize_4, tbytes_4, tagg_4, zcells_4, telem_4, tbool_4, tnotIface_4, tsize_23, tbytes_23, tagg_23, zcells_23, telem_23, tnotIface_23, tsize_52, tbytes_52, tagg_52, zcells_52, telem_52, tnotIface_52, ints, Int.natCast_zero]
  · rintro m a h3 ⟨k, bs, rfl, hk, hok, hbl, hs, a0, a1, a5, a6, rfl⟩
    simp (maxSteps := 4000000) +contextual only [↓packA0, ↓packA1, ↓packA2, ↓reduceIte, packB0, packB1, packB2, packB3, packB4, pureOp, quietOp, loadOp, quietB, fr0, cellsK, Option.getD_some, Option.getD_none, implies_true, ite_true, ite_false, eq_self, ne_eq, reduceCtorEq, Nat.reduceLT, Nat.reduceLeDiff, Nat.reduceAdd, Nat.reduceMul, Nat.reduceBEq, Nat.reduceEqDiff, Int.reduceToNat, Int.reduceLT, Int.reduceLE, Nat.reduceSub, pl25, tsize_3, tbytes_3, tagg_3, zcells_3, telem_3, tint_3, tnotIface_3, tsize_4, tbytes_4, tagg_4, zcells_4, telem_4, tbool_4, tnotIface_4, tsize_23, tbytes_23, tagg_23, zcells_23, telem_23, tnotIface_23, tsize_52, tbytes_52, tagg_52, zcells_52, telem_52, tnotIface_52, ints, a0, a1, a5, a6, hbl]
    have hbad : ¬ okAt n xs k → k < xs.length → checkR n xs = 182 := fun hn hk => by
      unfold checkR; rw [if_neg (by omega), if_neg (by omega), if_neg (fun ho => hn (ho k hk))]
    refine ⟨fun e => ⟨by omega, by omega, fun e1 => ?_, fun e1 => ⟨by omega, by omega, fun e2 => ?_, fun e2 => ⟨by omega, by omega, by omega, by omega, fun e3 => ?_, fun e3 => ⟨by omega, by omega, by omega, by omega, by omega, .inl ⟨xs.length - (k + 1), by omega, k + 1, _, rfl, by omega, ?_, by simpa using hbl, ?_, by omega, rfl⟩⟩⟩⟩⟩, fun e => ?_⟩
    · rw [hbad (fun ho => absurd ho.1 (by omega)) (by omega)]; exact .pure _ rfl
    · rw [hbad (fun ho => absurd ho.2.1 (by omega)) (by omega)]; exact .pure _ rfl
    · obtain ⟨j, hj, hj2⟩ := (hs (xs.getD k default).toNat (by omega)).1 e3
      rw [hbad (fun ho => ho.2.2 j hj (by omega)) (by omega)]; exact .pure _ rfl
    · intro i hi
      by_cases hik : i < k
      · exact hok i hik
      · have : i = k := by omega
        subst this
        refine ⟨by omega, by omega, fun j hj hjx => ?_⟩
        have := (hs (xs.getD i default).toNat (by omega)).2 ⟨j, hj, by omega⟩
        rw [this] at e3; cases e3
    · exact seen_set hs (by omega) (by omega)
    · rw [show checkR n xs = 0 by unfold checkR; rw [if_neg (by omega), if_neg (by omega), if_pos (show ordOK n xs from fun i hi => hok i (by omega))]]; exact .pure _ rfl
end Go.Proofs.Ytgdlkhgfehclpaa
