/- Degeneracy. No condition. -/
import Derived.Test.YtgdlkhgfehclpaaPOu
namespace Go.Proofs.Ytgdlkhgfehclpaa
open Go Go.AL
set_option linter.unusedVariables false
set_option linter.unusedSimpArgs false
/-- The greatest of the first k, and of 0. -/
def mxK (C : List Int) : Nat → Int
  | 0 => 0
  | k + 1 => max (mxK C k) (C.getD k default)
/-- Each vertex's core. -/
def coresOf (st cs : List Int) (n : Nat) : List Int := (pst st cs n n).C
theorem graph_sides {rows width : Int} {st cs : List Int} (h : graphP rows width st cs) : ∃ n : Nat, rows = n ∧ width = n ∧ n ≤ 128 := by
  have h1 := h.1.1.1
  have h2 := h.1.2.1
  exact ⟨rows.toNat, by omega, by omega, by omega⟩
set_option maxHeartbeats 4000000 in
set_option maxRecDepth 100000 in
theorem degen_c (rows width : Int) (st cs : List Int) (hb : st.length < 1000000000) (hb2 : cs.length < 1000000000) : ACalls Try.prog 20 [pat rows width st cs] [] fun v h =>
    (graphP rows width st cs → OFz h v (.tup [.int .i64 (mxK (coresOf st cs rows.toNat) rows.toNat), ints (coresOf st cs rows.toNat), .int .i64 0])) ∧ (¬ graphP rows width st cs → OFz h v (.tup [.int .i64 0, ints [], .int .i64 220])) := by
  refine (wp20 rfl rfl ?_)
  simp (maxSteps := 4000000) +contextual only [↓packA0, ↓packA1, ↓packA2, ↓reduceIte, packB0, packB1, packB2, packB3, packB4, pureOp, quietOp, loadOp, quietB, fr0, cellsK, Option.getD_some, Option.getD_none, implies_true, ite_true, ite_false, eq_self, ne_eq, reduceCtorEq, Nat.reduceLT, Nat.reduceLeDiff, Nat.reduceAdd, Nat.reduceMul, Nat.reduceBEq, Nat.reduceEqDiff, Int.reduceToNat, Int.reduceLT, Int.reduceLE, Nat.reduceSub, pl20, tsize_3, tbytes_3, tagg_3, zcells_3, telem_3, tint_3, tnotIface_3, tsize_4, tbytes_4, tagg_4, zcells_4, telem_4, tbool_4, tnotIface_4, tsize_23, tbytes_23, tagg_23, zcells_23, telem_23, tnotIface_23, tsize_45, tbytes_45, tagg_45, zcells_45, telem_45, tnotIface_45, foff_45_0, foff_45_1, foff_45_2, foff_45_3, fplaces_45, ints]
  refine acalls_pure (graph_c rows width st cs hb hb2) rfl ?_
  simp (maxSteps := 4000000) +contextual only [↓packA0, ↓packA1, ↓packA2, ↓reduceIte, packB0, packB1, packB2, packB3, packB4, pureOp, quietOp, loadOp, quietB, fr0, cellsK, Option.getD_some, Option.getD_none, implies_true, ite_true, ite_false, eq_self, ne_eq, reduceCtorEq, Nat.reduceLT, Nat.reduceLeDiff, Nat.reduceAdd, Nat.reduceMul, Nat.reduceBEq, Nat.reduceEqDiff, Int.reduceToNat, Int.reduceLT, Int.reduceLE, Nat.reduceSub, pl20, tsize_3, tbytes_3, tagg_3, zcells_3, telem_3, tint_3, tnotIface_3, tsize_4, tbytes_4, tagg_4, zcells_4, telem_4, tbool_4, tnotIface_4, tsize_23, tbytes_23, tagg_23, zcells_23, telem_23, tnotIface_23, tsize_45, tbytes_45, tagg_45, zcells_45, telem_45, tnotIface_45, foff_45_0, foff_45_1, foff_45_2, foff_45_3, fplaces_45, ints]
  refine ⟨fun hg => ?_, fun hg => .three (.flat _ rfl) (.nils 1) (.flat _ rfl)⟩
  obtain ⟨n, rfl, rfl, hn⟩ := graph_sides hg
  refine peel_at n hn st cs hb hb2 hg fun G o7 o8 hG g7 g8 => ?_
  have hCl := (pst_len st cs n n).2.2
  simp (maxSteps := 4000000) +contextual only [↓packA0, ↓packA1, ↓packA2, ↓reduceIte, packB0, packB1, packB2, packB3, packB4, pureOp, quietOp, loadOp, quietB, fr0, cellsK, Option.getD_some, Option.getD_none, implies_true, ite_true, ite_false, eq_self, ne_eq, reduceCtorEq, Nat.reduceLT, Nat.reduceLeDiff, Nat.reduceAdd, Nat.reduceMul, Nat.reduceBEq, Nat.reduceEqDiff, Int.reduceToNat, Int.reduceLT, Int.reduceLE, Nat.reduceSub, pl20, tsize_3, tbytes_3, tagg_3, zcells_3, telem_3, tint_3, tnotIface_3, tsize_4, tbytes_4, tagg_4, zcells_4, telem_4, tbool_4, tnotIface_4, tsize_23, tbytes_23, tagg_23, zcells_23, telem_23, tnotIface_23, tsize_45, tbytes_45, tagg_45, zcells_45, telem_45, tnotIface_45, foff_45_0, foff_45_1, foff_45_2, foff_45_3, fplaces_45, ints]
  refine LoopK.intro (fun m a h => ∃ k : Nat, m = n - k ∧ k ≤ n ∧ a 6 = .osl o8 1 0 n n true ∧ a 7 = .int .i64 (mxK (coresOf st cs n) k) ∧ a 18 = .osl o8 1 0 n n true ∧ a 19 = .int .i64 n ∧ a 20 = .int .i64 k ∧ h = G) n ⟨0, rfl, Nat.zero_le _, ?_⟩ ?_
  · simp (maxSteps := 4000000) only [↓packA0, ↓packA1, ↓packA2, ↓reduceIte, packB0, packB1, packB2, packB3, packB4, pureOp, quietOp, loadOp, quietB, fr0, cellsK, Option.getD_some, Option.getD_none, implies_true, ite_true, ite_false, eq_self, ne_eq, reduceCtorEq, Nat.reduceLT, Nat.reduceLeDiff, Nat.reduceAdd, Nat.reduceMul, Nat.reduceBEq, Nat.reduceEqDiff, Int.reduceToNat, Int.reduceLT, Int.reduceLE, Nat.reduceSub, pl20, tsize_3, tbytes_3, tagg_3, zcells_3, telem_3, tint_3, tnotIface_3, tsize_4, tbytes_4, tagg_4, zcells_4, telem_4, tbool_4, tnotIface_4, tsize_23, tbytes_23, tagg_23, zcells_23, telem_23, tnotIface_23, tsize_45, tbytes_45, tagg_45, zcells_45, telem_45, tnotIface_45, foff_45_0, foff_45_1, foff_45_2, foff_45_3, fplaces_45, Int.natCast_zero, mxK]
  rintro m a h ⟨k, rfl, hk, a6, a7, a18, a19, a20, rfl⟩
  simp (maxSteps := 4000000) +contextual only [↓packA0, ↓packA1, ↓packA2, ↓reduceIte, packB0, packB1, packB2, packB3, packB4, pureOp, quietOp, loadOp, quietB, fr0, cellsK, Option.getD_some, Option.getD_none, implies_true, ite_true, ite_false, eq_self, ne_eq, reduceCtorEq, Nat.reduceLT, Nat.reduceLeDiff, Nat.reduceAdd, Nat.reduceMul, Nat.reduceBEq, Nat.reduceEqDiff, Int.reduceToNat, Int.reduceLT, Int.reduceLE, Nat.reduceSub, pl20, tsize_3, tbytes_3, tagg_3, zcells_3, telem_3, tint_3, tnotIface_3, tsize_4, tbytes_4, tagg_4, zcells_4, telem_4, tbool_4, tnotIface_4, tsize_23, tbytes_23, tagg_23, zcells_23, telem_23, tnotIface_23, tsize_45, tbytes_45, tagg_45, zcells_45, telem_45, tnotIface_45, foff_45_0, foff_45_1, foff_45_2, foff_45_3, fplaces_45, a6, a7, a18, a19, a20, g8, minK_2, imax_eq]
  refine ⟨fun h2 => ⟨by omega, by omega, by omega, .inl ⟨n - (k + 1), by omega, k + 1, rfl, by omega, rfl, by omega⟩⟩, fun h2 => ?_⟩
  obtain rfl : n = k := by omega
  exact ⟨fun _ => .three (.flat _ rfl) (ofz_ints (l := coresOf st cs n) g8 hCl.symm) (.flat _ rfl), fun h => absurd hg h⟩
/-- The law's own graph. -/
theorem degen_a : ACalls Try.prog 20 [pat 3 3 [0, 1, 3, 4] [1, 0, 2, 1]] [] fun v h => OFz h v (.tup [.int .i64 1, ints [1, 1, 1], .int .i64 0]) :=
  (degen_c 3 3 [0, 1, 3, 4] [1, 0, 2, 1] (by simp) (by simp)).mono fun u h' hh => by
    have := hh.1 graph_a
    rw [show coresOf [0, 1, 3, 4] [1, 0, 2, 1] (3 : Int).toNat = [1, 1, 1] by decide, show mxK [1, 1, 1] (3 : Int).toNat = 1 by decide] at this
    exact this
end Go.Proofs.Ytgdlkhgfehclpaa
