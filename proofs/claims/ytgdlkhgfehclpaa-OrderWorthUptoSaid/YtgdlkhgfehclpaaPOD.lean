/- Cores, the document's. No condition. -/
import Derived.Test.YtgdlkhgfehclpaaPOC
namespace Go.Proofs.Ytgdlkhgfehclpaa
open Go Go.AL
set_option linter.unusedVariables false
set_option linter.unusedSimpArgs false
theorem boolL_ext {xs ys : List Bool} (hl : xs.length = ys.length) (h : ∀ j, j < xs.length → xs.getD j false = ys.getD j false) : xs = ys := by
  apply List.ext_getElem hl
  intro i h1 h2
  have := h i h1
  simpa [List.getD_eq_getElem?_getD, List.getElem?_eq_getElem h1, List.getElem?_eq_getElem h2] using this
theorem getB_setT {S : List Bool} {v u : Nat} (hv : v < S.length) : (S.set v true).getD u false = (if u = v then true else S.getD u false) := by
  by_cases e : u = v
  · subst e; rw [if_pos rfl]; simp [List.getD_eq_getElem?_getD, List.getElem?_set_self hv]
  · rw [if_neg e]; simp only [List.getD_eq_getElem?_getD, List.getElem?_set_ne (Ne.symm e)]
theorem ofz_bools {h : Heap} {id len cap : Nat} {ex ex' : Bool} {l : List Bool} (hid : h[id]? = some (.arr 1 (List.map boolE l) ex')) (hl : len = l.length) : OFz h (.osl id 1 0 len cap ex) (bools l) := by
  have := OFz.osl (h := h) id 1 0 len cap ex ex' (List.map boolE l) hid (by simp; omega) (fun e he => by
    obtain ⟨x, _, rfl⟩ := List.mem_map.1 he; rfl)
  rw [List.drop_zero, List.take_of_length_le (by simp; omega)] at this
  exact this
set_option maxRecDepth 100000 in
theorem full_c (n : Nat) (hn : n ≤ 128) : ACalls Try.prog 92 [.int .i64 n] [] fun v h => v = .osl 0 1 0 n n true ∧ h = [Ob.arr 1 (List.map boolE (List.replicate n true)) true] := by
  refine (wp92 rfl rfl ?_)
  simp (maxSteps := 4000000) +contextual only [↓packA0, ↓packA1, ↓packA2, ↓reduceIte, packB0, packB1, packB2, packB3, packB4, pureOp, quietOp, loadOp, quietB, fr0, cellsK, Option.getD_some, Option.getD_none, implies_true, ite_true, ite_false, eq_self, ne_eq, reduceCtorEq, Nat.reduceLT, Nat.reduceLeDiff, Nat.reduceAdd, Nat.reduceMul, Nat.reduceBEq, Nat.reduceEqDiff, Int.reduceToNat, Int.reduceLT, Int.reduceLE, Nat.reduceSub, pl92, tsize_3, tbytes_3, tagg_3, zcells_3, telem_3, tint_3, tnotIface_3, tsize_4, tbytes_4, tagg_4, zcells_4, telem_4, tbool_4, tnotIface_4, tsize_52, tbytes_52, tagg_52, zcells_52, telem_52, tnotIface_52]
  refine ⟨by omega, ?_⟩
  refine LoopK.intro (fun m a h => ∃ (k : Nat) (S : List Bool), m = n - k ∧ k ≤ n ∧ S.length = n ∧ (∀ u, u < k → S.getD u false = true) ∧ a 0 = .int .i64 n ∧ a 3 = .osl 0 1 0 n n true ∧ a 4 = .int .i64 k ∧ h = [Ob.arr 1 (List.map boolE S) true]) n ⟨0, List.replicate n false, rfl, Nat.zero_le _, by simp, fun u hu => by omega, ?_⟩ ?_
  · simp (maxSteps := 4000000) only [↓packA0, ↓packA1, ↓packA2, ↓reduceIte, packB0, packB1, packB2, packB3, packB4, pureOp, quietOp, loadOp, quietB, fr0, cellsK, Option.getD_some, Option.getD_none, implies_true, ite_true, ite_false, eq_self, ne_eq, reduceCtorEq, Nat.reduceLT, Nat.reduceLeDiff, Nat.reduceAdd, Nat.reduceMul, Nat.reduceBEq, Nat.reduceEqDiff, Int.reduceToNat, Int.reduceLT, Int.reduceLE, Nat.reduceSub, pl92, tsize_3, tbytes_3, tagg_3, zcells_3, telem_3, tint_3, tnotIface_3, tsize_4, tbytes_4, tagg_4, zcells_4, telem_4, tbool_4, tnotIface_4, tsize_52, tbytes_52, tagg_52, zcells_52, telem_52, tnotIface_52, Int.natCast_zero]
  rintro m a h ⟨k, S, rfl, hk, hS, hlo, a0, a3, a4, rfl⟩
  simp (maxSteps := 4000000) +contextual only [↓packA0, ↓packA1, ↓packA2, ↓reduceIte, packB0, packB1, packB2, packB3, packB4, pureOp, quietOp, loadOp, quietB, fr0, cellsK, Option.getD_some, Option.getD_none, implies_true, ite_true, ite_false, eq_self, ne_eq, reduceCtorEq, Nat.reduceLT, Nat.reduceLeDiff, Nat.reduceAdd, Nat.reduceMul, Nat.reduceBEq, Nat.reduceEqDiff, Int.reduceToNat, Int.reduceLT, Int.reduceLE, Nat.reduceSub, pl92, tsize_3, tbytes_3, tagg_3, zcells_3, telem_3, tint_3, tnotIface_3, tsize_4, tbytes_4, tagg_4, zcells_4, telem_4, tbool_4, tnotIface_4, tsize_52, tbytes_52, tagg_52, zcells_52, telem_52, tnotIface_52, a0, a3, a4]
  refine ⟨fun h2 => ⟨by omega, by omega, by omega, .inl ⟨n - (k + 1), by omega, k + 1, S.set k true, rfl, by omega, by simp [hS], fun u hu => ?_, by omega, rfl⟩⟩, fun h2 => ?_⟩
  · rw [getB_setT (by omega)]
    split
    · rfl
    · exact hlo u (by omega)
  · obtain rfl : k = n := by omega
    rw [show S = List.replicate k true from boolL_ext (by simp [hS]) fun j hj => by rw [hlo j (by omega)]; simp [List.getD_eq_getElem?_getD, List.getElem?_replicate, show j < k by omega]]
def coreH (st cs : List Int) (n q : Nat) : List Bool := (List.range n).map fun u => decide ((q : Int) ≤ (coresOf st cs n).getD u default)
theorem coreH_len {st cs : List Int} {n q : Nat} : (coreH st cs n q).length = n := by simp [coreH]
theorem coreH_get {st cs : List Int} {n q u : Nat} (h : u < n) : ((coreH st cs n q).getD u false = true ↔ (q : Int) ≤ (coresOf st cs n).getD u default) := by
  simp [coreH, List.getD_eq_getElem?_getD, List.getElem?_map, List.getElem?_range h]
set_option maxHeartbeats 4000000 in
set_option maxRecDepth 100000 in
theorem rcore_c (n : Nat) (st cs : List Int) (q : Nat) (hb : st.length < 1000000000) (hb2 : cs.length < 1000000000) (hm : mayP n n st cs) (hn : n ≤ 128) : ACalls Try.prog 72 [pat n n st cs, .int .i64 q] [] fun v h => OFz h v (bools (coreH st cs n q)) := by
  refine (wp72 rfl rfl ?_)
  simp (maxSteps := 4000000) +contextual only [↓packA0, ↓packA1, ↓packA2, ↓reduceIte, packB0, packB1, packB2, packB3, packB4, pureOp, quietOp, loadOp, quietB, fr0, cellsK, Option.getD_some, Option.getD_none, implies_true, ite_true, ite_false, eq_self, ne_eq, reduceCtorEq, Nat.reduceLT, Nat.reduceLeDiff, Nat.reduceAdd, Nat.reduceMul, Nat.reduceBEq, Nat.reduceEqDiff, Int.reduceToNat, Int.reduceLT, Int.reduceLE, Nat.reduceSub, pl72, tsize_3, tbytes_3, tagg_3, zcells_3, telem_3, tint_3, tnotIface_3, tsize_4, tbytes_4, tagg_4, zcells_4, telem_4, tbool_4, tnotIface_4, tsize_23, tbytes_23, tagg_23, zcells_23, telem_23, tnotIface_23, tsize_45, tbytes_45, tagg_45, zcells_45, telem_45, tnotIface_45, foff_45_0, foff_45_1, foff_45_2, foff_45_3, fplaces_45, tsize_52, tbytes_52, tagg_52, zcells_52, telem_52, tnotIface_52, ints]
  refine acalls_shift (full_c n hn) rfl ?_
  rintro u h0 ⟨rfl, rfl⟩
  simp (maxSteps := 4000000) +contextual only [↓packA0, ↓packA1, ↓packA2, ↓reduceIte, packB0, packB1, packB2, packB3, packB4, pureOp, quietOp, loadOp, quietB, fr0, cellsK, Option.getD_some, Option.getD_none, implies_true, ite_true, ite_false, eq_self, ne_eq, reduceCtorEq, Nat.reduceLT, Nat.reduceLeDiff, Nat.reduceAdd, Nat.reduceMul, Nat.reduceBEq, Nat.reduceEqDiff, Int.reduceToNat, Int.reduceLT, Int.reduceLE, Nat.reduceSub, pl72, tsize_3, tbytes_3, tagg_3, zcells_3, telem_3, tint_3, tnotIface_3, tsize_4, tbytes_4, tagg_4, zcells_4, telem_4, tbool_4, tnotIface_4, tsize_23, tbytes_23, tagg_23, zcells_23, telem_23, tnotIface_23, tsize_45, tbytes_45, tagg_45, zcells_45, telem_45, tnotIface_45, foff_45_0, foff_45_1, foff_45_2, foff_45_3, fplaces_45, tsize_52, tbytes_52, tagg_52, zcells_52, telem_52, tnotIface_52, ints]
  refine LoopK.intro (fun m a h => ∃ (S : List Bool) (b : Bool), m = 2 * trues S + (if b = true then 1 else 0) ∧ S.length = n ∧ (∀ u, u < n → (coreH st cs n q).getD u false = true → S.getD u false = true) ∧ (b = false → ∀ u, u < n → S.getD u false = true → q ≤ cnt st cs S u) ∧ a 1 = .int .i64 q ∧ a 2 = .op 0 4 0 0 ∧ a 5 = .osl 1 1 0 n n true ∧ a 6 = .bool b ∧ h = [patO n n st cs, Ob.arr 1 (List.map boolE S) true]) (2 * trues (List.replicate n true) + 1) ⟨List.replicate n true, true, rfl, by simp, fun u hu _ => by simp [List.getD_eq_getElem?_getD, List.getElem?_replicate, hu], fun h => (by cases h), ?_⟩ ?_
  · simp (maxSteps := 4000000) only [↓packA0, ↓packA1, ↓packA2, ↓reduceIte, packB0, packB1, packB2, packB3, packB4, pureOp, quietOp, loadOp, quietB, fr0, cellsK, Option.getD_some, Option.getD_none, implies_true, ite_true, ite_false, eq_self, ne_eq, reduceCtorEq, Nat.reduceLT, Nat.reduceLeDiff, Nat.reduceAdd, Nat.reduceMul, Nat.reduceBEq, Nat.reduceEqDiff, Int.reduceToNat, Int.reduceLT, Int.reduceLE, Nat.reduceSub, pl72, tsize_3, tbytes_3, tagg_3, zcells_3, telem_3, tint_3, tnotIface_3, tsize_4, tbytes_4, tagg_4, zcells_4, telem_4, tbool_4, tnotIface_4, tsize_23, tbytes_23, tagg_23, zcells_23, telem_23, tnotIface_23, tsize_45, tbytes_45, tagg_45, zcells_45, telem_45, tnotIface_45, foff_45_0, foff_45_1, foff_45_2, foff_45_3, fplaces_45, tsize_52, tbytes_52, tagg_52, zcells_52, telem_52, tnotIface_52, ints, patO]
  rintro m a h ⟨S, b, rfl, hS, hH, hcl, a1, a2, a5, a6, rfl⟩
  cases b with
  | false =>
    simp (maxSteps := 4000000) +contextual only [↓packA0, ↓packA1, ↓packA2, ↓reduceIte, packB0, packB1, packB2, packB3, packB4, pureOp, quietOp, loadOp, quietB, fr0, cellsK, Option.getD_some, Option.getD_none, implies_true, ite_true, ite_false, eq_self, ne_eq, reduceCtorEq, Nat.reduceLT, Nat.reduceLeDiff, Nat.reduceAdd, Nat.reduceMul, Nat.reduceBEq, Nat.reduceEqDiff, Int.reduceToNat, Int.reduceLT, Int.reduceLE, Nat.reduceSub, pl72, tsize_3, tbytes_3, tagg_3, zcells_3, telem_3, tint_3, tnotIface_3, tsize_4, tbytes_4, tagg_4, zcells_4, telem_4, tbool_4, tnotIface_4, tsize_23, tbytes_23, tagg_23, zcells_23, telem_23, tnotIface_23, tsize_45, tbytes_45, tagg_45, zcells_45, telem_45, tnotIface_45, foff_45_0, foff_45_1, foff_45_2, foff_45_3, fplaces_45, tsize_52, tbytes_52, tagg_52, zcells_52, telem_52, tnotIface_52, ints, patO, a1, a2, a5, a6]
    have hSe : S = coreH st cs n q := boolL_ext (by rw [hS, coreH_len]) fun j hj => by
      have h1 := hH j (by omega)
      have h2 := core_ge hm (hcl rfl) j (by omega)
      rw [← coreH_get (by omega)] at h2
      cases hs : S.getD j false <;> cases hc : (coreH st cs n q).getD j false
      · rfl
      · rw [h1 hc] at hs; cases hs
      · rw [h2 hs] at hc; cases hc
      · rfl
    rw [← hSe]
    exact ofz_bools rfl hS.symm
  | true =>
    simp (maxSteps := 4000000) +contextual only [↓packA0, ↓packA1, ↓packA2, ↓reduceIte, packB0, packB1, packB2, packB3, packB4, pureOp, quietOp, loadOp, quietB, fr0, cellsK, Option.getD_some, Option.getD_none, implies_true, ite_true, ite_false, eq_self, ne_eq, reduceCtorEq, Nat.reduceLT, Nat.reduceLeDiff, Nat.reduceAdd, Nat.reduceMul, Nat.reduceBEq, Nat.reduceEqDiff, Int.reduceToNat, Int.reduceLT, Int.reduceLE, Nat.reduceSub, pl72, tsize_3, tbytes_3, tagg_3, zcells_3, telem_3, tint_3, tnotIface_3, tsize_4, tbytes_4, tagg_4, zcells_4, telem_4, tbool_4, tnotIface_4, tsize_23, tbytes_23, tagg_23, zcells_23, telem_23, tnotIface_23, tsize_45, tbytes_45, tagg_45, zcells_45, telem_45, tnotIface_45, foff_45_0, foff_45_1, foff_45_2, foff_45_3, fplaces_45, tsize_52, tbytes_52, tagg_52, zcells_52, telem_52, tnotIface_52, ints, patO, a1, a2, a5, a6]
    refine LoopK.intro (fun m a h => ∃ (v : Nat) (S1 : List Bool) (b : Bool), m = n - v ∧ v ≤ n ∧ S1.length = n ∧ (∀ u, u < n → (coreH st cs n q).getD u false = true → S1.getD u false = true) ∧ trues S1 + (if b = true then 1 else 0) ≤ trues S ∧ (b = false → ∀ u, u < v → S1.getD u false = true → q ≤ cnt st cs S1 u) ∧ a 1 = .int .i64 q ∧ a 2 = .op 0 4 0 0 ∧ a 5 = .osl 1 1 0 n n true ∧ a 6 = .bool b ∧ a 7 = .int .i64 v ∧ h = [patO n n st cs, Ob.arr 1 (List.map boolE S1) true]) n ⟨0, S, false, rfl, Nat.zero_le _, hS, hH, by simp, fun _ u hu => by omega, ?_⟩ ?_
    · simp (maxSteps := 4000000) only [↓packA0, ↓packA1, ↓packA2, ↓reduceIte, packB0, packB1, packB2, packB3, packB4, pureOp, quietOp, loadOp, quietB, fr0, cellsK, Option.getD_some, Option.getD_none, implies_true, ite_true, ite_false, eq_self, ne_eq, reduceCtorEq, Nat.reduceLT, Nat.reduceLeDiff, Nat.reduceAdd, Nat.reduceMul, Nat.reduceBEq, Nat.reduceEqDiff, Int.reduceToNat, Int.reduceLT, Int.reduceLE, Nat.reduceSub, pl72, tsize_3, tbytes_3, tagg_3, zcells_3, telem_3, tint_3, tnotIface_3, tsize_4, tbytes_4, tagg_4, zcells_4, telem_4, tbool_4, tnotIface_4, tsize_23, tbytes_23, tagg_23, zcells_23, telem_23, tnotIface_23, tsize_45, tbytes_45, tagg_45, zcells_45, telem_45, tnotIface_45, foff_45_0, foff_45_1, foff_45_2, foff_45_3, fplaces_45, tsize_52, tbytes_52, tagg_52, zcells_52, telem_52, tnotIface_52, ints, patO, a1, a2, a5, a6, Int.natCast_zero]
    clear a1 a2 a5 a6
    rintro m a h ⟨v, S1, b, rfl, hv, hS1, hH1, htr, hcl1, a1, a2, a5, a6, a7, rfl⟩
    simp (maxSteps := 4000000) +contextual only [↓packA0, ↓packA1, ↓packA2, ↓reduceIte, packB0, packB1, packB2, packB3, packB4, pureOp, quietOp, loadOp, quietB, fr0, cellsK, Option.getD_some, Option.getD_none, implies_true, ite_true, ite_false, eq_self, ne_eq, reduceCtorEq, Nat.reduceLT, Nat.reduceLeDiff, Nat.reduceAdd, Nat.reduceMul, Nat.reduceBEq, Nat.reduceEqDiff, Int.reduceToNat, Int.reduceLT, Int.reduceLE, Nat.reduceSub, pl72, tsize_3, tbytes_3, tagg_3, zcells_3, telem_3, tint_3, tnotIface_3, tsize_4, tbytes_4, tagg_4, zcells_4, telem_4, tbool_4, tnotIface_4, tsize_23, tbytes_23, tagg_23, zcells_23, telem_23, tnotIface_23, tsize_45, tbytes_45, tagg_45, zcells_45, telem_45, tnotIface_45, foff_45_0, foff_45_1, foff_45_2, foff_45_3, fplaces_45, tsize_52, tbytes_52, tagg_52, zcells_52, telem_52, tnotIface_52, ints, patO, a1, a2, a5, a6, a7]
    refine ⟨fun h2 => ⟨by omega, by omega, fun hs => acalls_lend (among_c n st cs S1 hb hb2 hm hn v (by omega) hS1) ?_ rfl ?_, fun hs => ?_⟩, fun h2 => ?_⟩
    · exact .cons (.pure _ rfl) (.cons (.pure _ rfl) (.cons (frz_bools (l := S1) rfl hS1) .nil))
    · have hs' : S1.getD v false = true := hs
      have htd := trues_set hs'
      simp (maxSteps := 4000000) +contextual only [↓packA0, ↓packA1, ↓packA2, ↓reduceIte, packB0, packB1, packB2, packB3, packB4, pureOp, quietOp, loadOp, quietB, fr0, cellsK, Option.getD_some, Option.getD_none, implies_true, ite_true, ite_false, eq_self, ne_eq, reduceCtorEq, Nat.reduceLT, Nat.reduceLeDiff, Nat.reduceAdd, Nat.reduceMul, Nat.reduceBEq, Nat.reduceEqDiff, Int.reduceToNat, Int.reduceLT, Int.reduceLE, Nat.reduceSub, pl72, tsize_3, tbytes_3, tagg_3, zcells_3, telem_3, tint_3, tnotIface_3, tsize_4, tbytes_4, tagg_4, zcells_4, telem_4, tbool_4, tnotIface_4, tsize_23, tbytes_23, tagg_23, zcells_23, telem_23, tnotIface_23, tsize_45, tbytes_45, tagg_45, zcells_45, telem_45, tnotIface_45, foff_45_0, foff_45_1, foff_45_2, foff_45_3, fplaces_45, tsize_52, tbytes_52, tagg_52, zcells_52, telem_52, tnotIface_52, ints, patO, a1, a2, a5, a6, a7, hs]
      refine ⟨fun h3 => ?_, fun h3 => ?_⟩
      · refine ⟨by omega, by omega, by omega, .inl ⟨n - (v + 1), by omega, v + 1, S1.set v false, true, rfl, by omega, by simp [hS1], fun u hu hc => ?_, ?_, fun h => (by cases h), rfl, by omega, rfl⟩⟩
        · rw [getB_set (by omega)]
          split
          · rename_i e
            subst e
            have h4 := core_le hm (H := coreH st cs n q) (fun w hw => coreH_get hw) u hu hc
            have h5 := cnt_mono hm hu hH1
            omega
          · exact hH1 u hu hc
        · cases b <;> simp at htr ⊢ <;> omega
      · refine ⟨by omega, .inl ⟨n - (v + 1), by omega, v + 1, S1, b, rfl, by omega, hS1, hH1, htr, fun hbf u hu hc => ?_, rfl, by omega, rfl⟩⟩
        rcases Nat.lt_or_ge u v with h4 | h4
        · exact hcl1 hbf u h4 hc
        · rw [show u = v by omega]; omega
    · have hs' : S1.getD v false = false := by
        cases hq : S1.getD v false with
        | false => rfl
        | true => exact absurd hq (by simpa using hs)
      refine ⟨by omega, .inl ⟨n - (v + 1), by omega, v + 1, S1, b, rfl, by omega, hS1, hH1, htr, fun hbf u hu hc => ?_, rfl, by omega, rfl⟩⟩
      rcases Nat.lt_or_ge u v with h4 | h4
      · exact hcl1 hbf u h4 hc
      · rw [show u = v by omega, hs'] at hc; cases hc
    · refine .inl ⟨2 * trues S1 + (if b = true then 1 else 0), ?_, S1, b, rfl, hS1, hH1, fun hbf u hu hc => hcl1 hbf u (by omega) hc, ?_⟩
      · cases b <;> simp at htr ⊢ <;> omega
      · exact ⟨rfl, rfl⟩
end Go.Proofs.Ytgdlkhgfehclpaa
