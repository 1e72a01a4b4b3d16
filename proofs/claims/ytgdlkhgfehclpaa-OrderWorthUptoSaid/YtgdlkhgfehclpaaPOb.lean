/- Functions on lists of numbers, second part: Inverse, both. No condition. -/
import Derived.Test.YtgdlkhgfehclpaaPOa
namespace Go.Proofs.Ytgdlkhgfehclpaa
open Go Go.AL
set_option linter.unusedVariables false
set_option linter.unusedSimpArgs false
/-- Each number's place, the first k written. -/
def invK (xs : List Int) : Nat → List Int
  | 0 => List.replicate xs.length 0
  | k + 1 => (invK xs k).set (xs.getD k default).toNat k
theorem invK_length (xs : List Int) : ∀ k, (invK xs k).length = xs.length
  | 0 => by simp [invK]
  | k + 1 => by simp [invK, invK_length xs k]
theorem checkR_zero {n : Int} {xs : List Int} (h : checkR n xs = 0) : 0 ≤ n ∧ n ≤ 128 ∧ (xs.length : Int) = n ∧ ordOK n xs := by
  unfold checkR at h
  by_cases h1 : n < 0 ∨ 128 < n
  · rw [if_pos h1] at h; omega
  · rw [if_neg h1] at h
    by_cases h2 : (xs.length : Int) ≠ n
    · rw [if_pos h2] at h; omega
    · rw [if_neg h2] at h
      by_cases h3 : ordOK n xs
      · exact ⟨by omega, by omega, by omega, h3⟩
      · rw [if_neg h3] at h; omega
/-- What Inverse answers. -/
noncomputable def invR (xs : List Int) : List Int := if checkR xs.length xs = 0 then invK xs xs.length else []
noncomputable def invE (xs : List Int) : Int := if checkR xs.length xs = 0 then 0 else 182
theorem invR_ok {xs : List Int} (h : checkR xs.length xs = 0) : invR xs = invK xs xs.length ∧ invE xs = 0 := ⟨if_pos h, if_pos h⟩
theorem invR_bad {xs : List Int} (h : checkR xs.length xs ≠ 0) : invR xs = [] ∧ invE xs = 182 := ⟨if_neg h, if_neg h⟩
set_option maxRecDepth 100000 in
theorem inverse_c (xs : List Int) (hb : xs.length < 1000000000) : ACalls Try.prog 30 [ints xs] [] fun v h => OFz h v (.tup [ints (invR xs), .int .i64 (invE xs)]) := by
  refine (wp30 rfl rfl ?_)
  simp (maxSteps := 4000000) +contextual only [↓packA0, ↓packA1, ↓packA2, ↓reduceIte, packB0, packB1, packB2, packB3, packB4, pureOp, quietOp, loadOp, quietB, fr0, cellsK, Option.getD_some, Option.getD_none, implies_true, ite_true, ite_false, eq_self, ne_eq, reduceCtorEq, Nat.reduceLT, Nat.reduceLeDiff, Nat.reduceAdd, Nat.reduceMul, Nat.reduceBEq, Nat.reduceEqDiff, Int.reduceToNat, Int.reduceLT, Int.reduceLE, Nat.reduceSub, pl30, tsize_3, tbytes_3, tagg_3, zcells_3, telem_3, tint_3, tnotIface_3, tsize_23, tbytes_23, tagg_23, zcells_23, telem_23, tnotIface_23, tsize_53, tbytes_53, tagg_53, zcells_53, telem_53, tint_53, tnotIface_53, ints]
  refine acalls_pure (check_c _ _) rfl ?_
  simp (maxSteps := 4000000) +contextual only [↓packA0, ↓packA1, ↓packA2, ↓reduceIte, packB0, packB1, packB2, packB3, packB4, pureOp, quietOp, loadOp, quietB, fr0, cellsK, Option.getD_some, Option.getD_none, implies_true, ite_true, ite_false, eq_self, ne_eq, reduceCtorEq, Nat.reduceLT, Nat.reduceLeDiff, Nat.reduceAdd, Nat.reduceMul, Nat.reduceBEq, Nat.reduceEqDiff, Int.reduceToNat, Int.reduceLT, Int.reduceLE, Nat.reduceSub, pl30, tsize_3, tbytes_3, tagg_3, zcells_3, telem_3, tint_3, tnotIface_3, tsize_23, tbytes_23, tagg_23, zcells_23, telem_23, tnotIface_23, tsize_53, tbytes_53, tagg_53, zcells_53, telem_53, tint_53, tnotIface_53, ints]
  refine ⟨fun h => ?_, fun h => ?_⟩
  · rw [(invR_bad h).1, (invR_bad h).2]
    exact .two (.nils 1) (.flat _ rfl)
  · refine ⟨by omega, ?_⟩
    obtain ⟨_, _, _, hok⟩ := checkR_zero h
    refine LoopK.intro (fun m a h => ∃ k : Nat, m = xs.length - k ∧ k ≤ xs.length ∧ a 4 = .osl 0 1 0 xs.length xs.length true ∧ a 15 = ints xs ∧ a 16 = .int .i64 xs.length ∧ a 17 = .int .i64 k ∧ h = [Ob.arr 1 (List.map intE (invK xs k)) true]) xs.length ⟨0, rfl, Nat.zero_le _, ?_⟩ ?_
    · simp (maxSteps := 4000000) only [↓packA0, ↓packA1, ↓packA2, ↓reduceIte, packB0, packB1, packB2, packB3, packB4, pureOp, quietOp, loadOp, quietB, fr0, cellsK, Option.getD_some, Option.getD_none, implies_true, ite_true, ite_false, eq_self, ne_eq, reduceCtorEq, Nat.reduceLT, Nat.reduceLeDiff, Nat.reduceAdd, Nat.reduceMul, Nat.reduceBEq, Nat.reduceEqDiff, Int.reduceToNat, Int.reduceLT, Int.reduceLE, Nat.reduceSub, pl30, tsize_3, tbytes_3, tagg_3, zcells_3, telem_3, tint_3, tnotIface_3, tsize_23, tbytes_23, tagg_23, zcells_23, telem_23, tnotIface_23, tsize_53, tbytes_53, tagg_53, zcells_53, telem_53, tint_53, tnotIface_53, ints, Int.natCast_zero, invK]
    · rintro m a h1 ⟨k, rfl, hk, a4, a15, a16, a17, rfl⟩
      have hxk := hok k
      unfold okAt at hxk
      simp (maxSteps := 4000000) +contextual only [↓packA0, ↓packA1, ↓packA2, ↓reduceIte, packB0, packB1, packB2, packB3, packB4, pureOp, quietOp, loadOp, quietB, fr0, cellsK, Option.getD_some, Option.getD_none, implies_true, ite_true, ite_false, eq_self, ne_eq, reduceCtorEq, Nat.reduceLT, Nat.reduceLeDiff, Nat.reduceAdd, Nat.reduceMul, Nat.reduceBEq, Nat.reduceEqDiff, Int.reduceToNat, Int.reduceLT, Int.reduceLE, Nat.reduceSub, pl30, tsize_3, tbytes_3, tagg_3, zcells_3, telem_3, tint_3, tnotIface_3, tsize_23, tbytes_23, tagg_23, zcells_23, telem_23, tnotIface_23, tsize_53, tbytes_53, tagg_53, zcells_53, telem_53, tint_53, tnotIface_53, ints, a4, a15, a16, a17, invK_length]
      refine ⟨fun e => ⟨by omega, by omega, by omega, by omega, by omega, .inl ⟨xs.length - (k + 1), by omega, k + 1, rfl, by omega, by omega, rfl⟩⟩, fun e => ?_⟩
      have : k = xs.length := by omega
      subst this
      rw [(invR_ok h).1, (invR_ok h).2]
      exact .two (ofz_ints rfl (invK_length _ _).symm) (.flat _ rfl)
set_option maxRecDepth 100000 in
theorem inverser_c (xs : List Int) (hb : xs.length < 1000000000) : ACalls Try.prog 53 [ints xs] [] fun v h => OFz h v (.tup [ints (invR xs), .int .i64 (invE xs)]) := by
  refine (wp53 rfl rfl ?_)
  simp (maxSteps := 4000000) +contextual only [↓packA0, ↓packA1, ↓packA2, ↓reduceIte, packB0, packB1, packB2, packB3, packB4, pureOp, quietOp, loadOp, quietB, fr0, cellsK, Option.getD_some, Option.getD_none, implies_true, ite_true, ite_false, eq_self, ne_eq, reduceCtorEq, Nat.reduceLT, Nat.reduceLeDiff, Nat.reduceAdd, Nat.reduceMul, Nat.reduceBEq, Nat.reduceEqDiff, Int.reduceToNat, Int.reduceLT, Int.reduceLE, Nat.reduceSub, pl53, tsize_3, tbytes_3, tagg_3, zcells_3, telem_3, tint_3, tnotIface_3, tsize_23, tbytes_23, tagg_23, zcells_23, telem_23, tnotIface_23, ints]
  refine ⟨fun h => ?_, fun h => acalls_pure (checkr_c _ _) rfl ?_⟩
  · have h' : checkR xs.length xs ≠ 0 := fun e => by have := checkR_zero e; omega
    rw [← ints, (invR_bad h').1, (invR_bad h').2]
    exact .two (.nils 1) (.flat _ rfl)
  simp (maxSteps := 4000000) +contextual only [↓packA0, ↓packA1, ↓packA2, ↓reduceIte, packB0, packB1, packB2, packB3, packB4, pureOp, quietOp, loadOp, quietB, fr0, cellsK, Option.getD_some, Option.getD_none, implies_true, ite_true, ite_false, eq_self, ne_eq, reduceCtorEq, Nat.reduceLT, Nat.reduceLeDiff, Nat.reduceAdd, Nat.reduceMul, Nat.reduceBEq, Nat.reduceEqDiff, Int.reduceToNat, Int.reduceLT, Int.reduceLE, Nat.reduceSub, pl53, tsize_3, tbytes_3, tagg_3, zcells_3, telem_3, tint_3, tnotIface_3, tsize_23, tbytes_23, tagg_23, zcells_23, telem_23, tnotIface_23, ints, h]
  refine ⟨fun h => ?_, fun h => ⟨by omega, ?_⟩⟩
  · rw [← ints, (invR_bad h).1, (invR_bad h).2]
    exact .two (.nils 1) (.flat _ rfl)
  obtain ⟨_, _, _, hok⟩ := checkR_zero h
  refine LoopK.intro (fun m a h => ∃ k : Nat, m = xs.length - k ∧ k ≤ xs.length ∧ a 0 = ints xs ∧ a 4 = .osl 0 1 0 xs.length xs.length true ∧ a 5 = .int .i64 k ∧ h = [Ob.arr 1 (List.map intE (invK xs k)) true]) xs.length ⟨0, rfl, Nat.zero_le _, ?_⟩ ?_
  · simp (maxSteps := 4000000) only [↓packA0, ↓packA1, ↓packA2, ↓reduceIte, packB0, packB1, packB2, packB3, packB4, pureOp, quietOp, loadOp, quietB, fr0, cellsK, Option.getD_some, Option.getD_none, implies_true, ite_true, ite_false, eq_self, ne_eq, reduceCtorEq, Nat.reduceLT, Nat.reduceLeDiff, Nat.reduceAdd, Nat.reduceMul, Nat.reduceBEq, Nat.reduceEqDiff, Int.reduceToNat, Int.reduceLT, Int.reduceLE, Nat.reduceSub, pl53, tsize_3, tbytes_3, tagg_3, zcells_3, telem_3, tint_3, tnotIface_3, tsize_23, tbytes_23, tagg_23, zcells_23, telem_23, tnotIface_23, ints, Int.natCast_zero, invK]
  · rintro m a h1 ⟨k, rfl, hk, a0, a4, a5, rfl⟩
    have hxk := hok k
    unfold okAt at hxk
    simp (maxSteps := 4000000) +contextual only [↓packA0, ↓packA1, ↓packA2, ↓reduceIte, packB0, packB1, packB2, packB3, packB4, pureOp, quietOp, loadOp, quietB, fr0, cellsK, Option.getD_some, Option.getD_none, implies_true, ite_true, ite_false, eq_self, ne_eq, reduceCtorEq, Nat.reduceLT, Nat.reduceLeDiff, Nat.reduceAdd, Nat.reduceMul, Nat.reduceBEq, Nat.reduceEqDiff, Int.reduceToNat, Int.reduceLT, Int.reduceLE, Nat.reduceSub, pl53, tsize_3, tbytes_3, tagg_3, zcells_3, telem_3, tint_3, tnotIface_3, tsize_23, tbytes_23, tagg_23, zcells_23, telem_23, tnotIface_23, ints, a0, a4, a5, invK_length]
    refine ⟨fun e => ⟨by omega, by omega, by omega, by omega, by omega, .inl ⟨xs.length - (k + 1), by omega, k + 1, rfl, by omega, by omega, rfl⟩⟩, fun e => ?_⟩
    have : k = xs.length := by omega
    subst this
    rw [(invR_ok h).1, (invR_ok h).2]
    exact .two (ofz_ints rfl (invK_length _ _).symm) (.flat _ rfl)
end Go.Proofs.Ytgdlkhgfehclpaa
