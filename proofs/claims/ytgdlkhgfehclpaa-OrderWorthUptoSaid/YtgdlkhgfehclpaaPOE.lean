/- Degeneracy, the document's. No condition. -/
import Derived.Test.YtgdlkhgfehclpaaPOD
namespace Go.Proofs.Ytgdlkhgfehclpaa
open Go Go.AL
set_option linter.unusedVariables false
set_option linter.unusedSimpArgs false
theorem row_len1 {n : Nat} {st cs : List Int} (hg : graphP n n st cs) {v : Nat} (hv : v < n) : (rowOf st cs v).length + 1 ≤ n := by
  obtain ⟨h1, h2, h3, h4, h5, h6, h7⟩ := may_row hg.1.1 (show v < (n : Int).toNat by omega)
  have := pigeon n (v :: (rowOf st cs v).map Int.toNat) (by
    refine List.nodup_cons.2 ⟨fun hc => ?_, ?_⟩
    · obtain ⟨w, hw, e⟩ := List.mem_map.1 hc
      obtain ⟨i, hi, e1⟩ := mem_getD.1 hw
      have := row_nonneg h4 hi
      exact hg.2 v (by omega) (by rw [show ((v : Nat) : Int) = w by omega]; exact hw)
    · refine List.pairwise_map.2 ?_
      refine List.Pairwise.imp_of_mem ?_ (nodup_row h4)
      intro a b ha hb hab
      obtain ⟨i, hi, e1⟩ := mem_getD.1 ha
      obtain ⟨j, hj, e2⟩ := mem_getD.1 hb
      have := row_nonneg h4 hi
      have := row_nonneg h4 hj
      omega) (fun x hx => by
    rcases List.mem_cons.1 hx with e | hx
    · omega
    · obtain ⟨y, hy, e⟩ := List.mem_map.1 hx
      obtain ⟨i, hi, e1⟩ := mem_getD.1 hy
      have := row_nonneg h4 hi
      have := (h4 i hi).2
      omega)
  simpa using this
theorem core_bounds {n : Nat} {st cs : List Int} (hg : graphP n n st cs) : ∀ k, k ≤ n → ((pst st cs n k).c + 1 ≤ n ∨ n = 0) ∧ ∀ u, u < n → 0 ≤ (pst st cs n k).C.getD u default ∧ (pst st cs n k).C.getD u default + 1 ≤ n
  | 0, _ => by
    refine ⟨by simp only [pst]; omega, fun u hu => ?_⟩
    simp [pst, List.getD_eq_getElem?_getD, List.getElem?_replicate, hu]
    omega
  | k + 1, hk => by
    obtain ⟨h1, h2⟩ := core_bounds hg k (by omega)
    obtain ⟨v, hb⟩ := pst_best st cs (show k < n by omega)
    have hl := pst_len st cs n k
    have h3 : cnt st cs (pst st cs n k).S v + 1 ≤ n := Nat.le_trans (Nat.succ_le_succ cnt_le) (row_len1 hg hb.1)
    rw [pst_step hb]
    refine ⟨by simp only; omega, fun u hu => ?_⟩
    simp only
    rw [getI_set (by rw [hl.2.2]; exact hb.1)]
    split
    · omega
    · exact h2 u hu
set_option maxHeartbeats 4000000 in
set_option maxRecDepth 100000 in
theorem rdegen_c (rows width : Int) (st cs : List Int) (hb : st.length < 1000000000) (hb2 : cs.length < 1000000000) : ACalls Try.prog 48 [pat rows width st cs] [] fun v h =>
    (graphP rows width st cs → OFz h v (.tup [.int .i64 (mxK (coresOf st cs rows.toNat) rows.toNat), ints (coresOf st cs rows.toNat), .int .i64 0])) ∧ (¬ graphP rows width st cs → OFz h v (.tup [.int .i64 0, ints [], .int .i64 220])) := by
  refine (wp48 rfl rfl ?_)
  simp (maxSteps := 4000000) +contextual only [↓packA0, ↓packA1, ↓packA2, ↓reduceIte, packB0, packB1, packB2, packB3, packB4, pureOp, quietOp, loadOp, quietB, fr0, cellsK, Option.getD_some, Option.getD_none, implies_true, ite_true, ite_false, eq_self, ne_eq, reduceCtorEq, Nat.reduceLT, Nat.reduceLeDiff, Nat.reduceAdd, Nat.reduceMul, Nat.reduceBEq, Nat.reduceEqDiff, Int.reduceToNat, Int.reduceLT, Int.reduceLE, Nat.reduceSub, pl48, tsize_3, tbytes_3, tagg_3, zcells_3, telem_3, tint_3, tnotIface_3, tsize_4, tbytes_4, tagg_4, zcells_4, telem_4, tbool_4, tnotIface_4, tsize_23, tbytes_23, tagg_23, zcells_23, telem_23, tnotIface_23, tsize_45, tbytes_45, tagg_45, zcells_45, telem_45, tnotIface_45, foff_45_0, foff_45_1, foff_45_2, foff_45_3, fplaces_45, tsize_52, tbytes_52, tagg_52, zcells_52, telem_52, tnotIface_52, ints]
  refine acalls_pure (rgraph_c rows width st cs hb hb2) rfl ?_
  simp (maxSteps := 4000000) +contextual only [↓packA0, ↓packA1, ↓packA2, ↓reduceIte, packB0, packB1, packB2, packB3, packB4, pureOp, quietOp, loadOp, quietB, fr0, cellsK, Option.getD_some, Option.getD_none, implies_true, ite_true, ite_false, eq_self, ne_eq, reduceCtorEq, Nat.reduceLT, Nat.reduceLeDiff, Nat.reduceAdd, Nat.reduceMul, Nat.reduceBEq, Nat.reduceEqDiff, Int.reduceToNat, Int.reduceLT, Int.reduceLE, Nat.reduceSub, pl48, tsize_3, tbytes_3, tagg_3, zcells_3, telem_3, tint_3, tnotIface_3, tsize_4, tbytes_4, tagg_4, zcells_4, telem_4, tbool_4, tnotIface_4, tsize_23, tbytes_23, tagg_23, zcells_23, telem_23, tnotIface_23, tsize_45, tbytes_45, tagg_45, zcells_45, telem_45, tnotIface_45, foff_45_0, foff_45_1, foff_45_2, foff_45_3, fplaces_45, tsize_52, tbytes_52, tagg_52, zcells_52, telem_52, tnotIface_52, ints]
  refine ⟨fun hg => ?_, fun hg => .three (.flat _ rfl) (.nils 1) (.flat _ rfl)⟩
  obtain ⟨n, rfl, rfl, hn⟩ := graph_sides hg
  have hCl := (pst_len st cs n n).2.2
  have hCb := (core_bounds hg n (Nat.le_refl _)).2
  refine ⟨by omega, ?_⟩
  refine LoopK.intro (fun m a h => ∃ (k : Nat) (L : List Int) (M : Int), m = n + 1 - k ∧ 1 ≤ k ∧ (k ≤ n ∨ k = 1) ∧ L.length = n ∧ (∀ u, u < n → L.getD u default = min ((coresOf st cs n).getD u default) ((k : Int) - 1)) ∧ M = min (mxK (coresOf st cs n) n) ((k : Int) - 1) ∧ a 1 = .op 0 4 0 0 ∧ a 5 = .osl 1 1 0 n n true ∧ a 6 = .int .i64 M ∧ a 7 = .int .i64 k ∧ h = [patO n n st cs, Ob.arr 1 (List.map intE L) true]) n ⟨1, List.replicate n 0, 0, by omega, by omega, by omega, by simp, fun u hu => ?_, ?_, ?_⟩ ?_
  · have := hCb u hu
    have e : (List.replicate n (0 : Int)).getD u default = 0 := by simp [List.getD_eq_getElem?_getD, List.getElem?_replicate, hu]
    rw [e]
    unfold coresOf
    omega
  · have := (mxK_ge (C := coresOf st cs n) n).1
    omega
  · simp (maxSteps := 4000000) only [↓packA0, ↓packA1, ↓packA2, ↓reduceIte, packB0, packB1, packB2, packB3, packB4, pureOp, quietOp, loadOp, quietB, fr0, cellsK, Option.getD_some, Option.getD_none, implies_true, ite_true, ite_false, eq_self, ne_eq, reduceCtorEq, Nat.reduceLT, Nat.reduceLeDiff, Nat.reduceAdd, Nat.reduceMul, Nat.reduceBEq, Nat.reduceEqDiff, Int.reduceToNat, Int.reduceLT, Int.reduceLE, Nat.reduceSub, pl48, tsize_3, tbytes_3, tagg_3, zcells_3, telem_3, tint_3, tnotIface_3, tsize_4, tbytes_4, tagg_4, zcells_4, telem_4, tbool_4, tnotIface_4, tsize_23, tbytes_23, tagg_23, zcells_23, telem_23, tnotIface_23, tsize_45, tbytes_45, tagg_45, zcells_45, telem_45, tnotIface_45, foff_45_0, foff_45_1, foff_45_2, foff_45_3, fplaces_45, tsize_52, tbytes_52, tagg_52, zcells_52, telem_52, tnotIface_52, ints, patO]
    rfl
  rintro m a h ⟨k, L, M, rfl, hk1, hk2, hL, hLc, hM, a1, a5, a6, a7, rfl⟩
  simp (maxSteps := 4000000) +contextual only [↓packA0, ↓packA1, ↓packA2, ↓reduceIte, packB0, packB1, packB2, packB3, packB4, pureOp, quietOp, loadOp, quietB, fr0, cellsK, Option.getD_some, Option.getD_none, implies_true, ite_true, ite_false, eq_self, ne_eq, reduceCtorEq, Nat.reduceLT, Nat.reduceLeDiff, Nat.reduceAdd, Nat.reduceMul, Nat.reduceBEq, Nat.reduceEqDiff, Int.reduceToNat, Int.reduceLT, Int.reduceLE, Nat.reduceSub, pl48, tsize_3, tbytes_3, tagg_3, zcells_3, telem_3, tint_3, tnotIface_3, tsize_4, tbytes_4, tagg_4, zcells_4, telem_4, tbool_4, tnotIface_4, tsize_23, tbytes_23, tagg_23, zcells_23, telem_23, tnotIface_23, tsize_45, tbytes_45, tagg_45, zcells_45, telem_45, tnotIface_45, foff_45_0, foff_45_1, foff_45_2, foff_45_3, fplaces_45, tsize_52, tbytes_52, tagg_52, zcells_52, telem_52, tnotIface_52, ints, patO, a1, a5, a6, a7]
  refine ⟨fun h2 => ?_, fun h2 => ?_⟩
  · refine acalls_fresh (rcore_c n st cs k hb hb2 hg.1.1 hn) ?_ (fun u h0 hz => ⟨_, hz, ?_⟩)
    · exact .cons (.pure _ rfl) (.cons (.pure _ rfl) .nil)
    simp (maxSteps := 4000000) +contextual only [↓packA0, ↓packA1, ↓packA2, ↓reduceIte, packB0, packB1, packB2, packB3, packB4, pureOp, quietOp, loadOp, quietB, fr0, cellsK, Option.getD_some, Option.getD_none, implies_true, ite_true, ite_false, eq_self, ne_eq, reduceCtorEq, Nat.reduceLT, Nat.reduceLeDiff, Nat.reduceAdd, Nat.reduceMul, Nat.reduceBEq, Nat.reduceEqDiff, Int.reduceToNat, Int.reduceLT, Int.reduceLE, Nat.reduceSub, pl48, tsize_3, tbytes_3, tagg_3, zcells_3, telem_3, tint_3, tnotIface_3, tsize_4, tbytes_4, tagg_4, zcells_4, telem_4, tbool_4, tnotIface_4, tsize_23, tbytes_23, tagg_23, zcells_23, telem_23, tnotIface_23, tsize_45, tbytes_45, tagg_45, zcells_45, telem_45, tnotIface_45, foff_45_0, foff_45_1, foff_45_2, foff_45_3, fplaces_45, tsize_52, tbytes_52, tagg_52, zcells_52, telem_52, tnotIface_52, ints, bools, patO, a1, a5, a6, a7]
    refine LoopK.intro (fun m a h => ∃ (v : Nat) (L2 : List Int) (M2 : Int), m = n - v ∧ v ≤ n ∧ L2.length = n ∧ (∀ u, u < v → L2.getD u default = min ((coresOf st cs n).getD u default) k) ∧ (∀ u, v ≤ u → u < n → L2.getD u default = min ((coresOf st cs n).getD u default) ((k : Int) - 1)) ∧ ((M2 = k ∧ ∃ u, u < v ∧ (k : Int) ≤ (coresOf st cs n).getD u default) ∨ (M2 = min (mxK (coresOf st cs n) n) ((k : Int) - 1) ∧ ∀ u, u < v → (coresOf st cs n).getD u default < k)) ∧ a 1 = .op 0 4 0 0 ∧ a 5 = .osl 1 1 0 n n true ∧ a 6 = .int .i64 M2 ∧ a 7 = .int .i64 k ∧ a 8 = bools (coreH st cs n k) ∧ a 9 = .int .i64 v ∧ h = [patO n n st cs, Ob.arr 1 (List.map intE L2) true]) n ⟨0, L, M, rfl, Nat.zero_le _, hL, fun u hu => by omega, fun u _ hu => hLc u hu, .inr ⟨hM, fun u hu => by omega⟩, ?_⟩ ?_
    · simp (maxSteps := 4000000) only [↓packA0, ↓packA1, ↓packA2, ↓reduceIte, packB0, packB1, packB2, packB3, packB4, pureOp, quietOp, loadOp, quietB, fr0, cellsK, Option.getD_some, Option.getD_none, implies_true, ite_true, ite_false, eq_self, ne_eq, reduceCtorEq, Nat.reduceLT, Nat.reduceLeDiff, Nat.reduceAdd, Nat.reduceMul, Nat.reduceBEq, Nat.reduceEqDiff, Int.reduceToNat, Int.reduceLT, Int.reduceLE, Nat.reduceSub, pl48, tsize_3, tbytes_3, tagg_3, zcells_3, telem_3, tint_3, tnotIface_3, tsize_4, tbytes_4, tagg_4, zcells_4, telem_4, tbool_4, tnotIface_4, tsize_23, tbytes_23, tagg_23, zcells_23, telem_23, tnotIface_23, tsize_45, tbytes_45, tagg_45, zcells_45, telem_45, tnotIface_45, foff_45_0, foff_45_1, foff_45_2, foff_45_3, fplaces_45, tsize_52, tbytes_52, tagg_52, zcells_52, telem_52, tnotIface_52, ints, bools, patO, a1, a5, a6, a7, Int.natCast_zero]
    clear a1 a5 a6 a7
    rintro m a h ⟨v, L2, M2, rfl, hv, hL2, hlo, hhi, hM2, a1, a5, a6, a7, a8, a9, rfl⟩
    have hHl := coreH_len (st := st) (cs := cs) (n := n) (q := k)
    have hHg : v < n → ((coreH st cs n k).getD v default = true ↔ (k : Int) ≤ (coresOf st cs n).getD v default) := fun h => coreH_get h
    generalize coreH st cs n k = Hk at *
    simp (maxSteps := 4000000) +contextual only [↓packA0, ↓packA1, ↓packA2, ↓reduceIte, packB0, packB1, packB2, packB3, packB4, pureOp, quietOp, loadOp, quietB, fr0, cellsK, Option.getD_some, Option.getD_none, implies_true, ite_true, ite_false, eq_self, ne_eq, reduceCtorEq, Nat.reduceLT, Nat.reduceLeDiff, Nat.reduceAdd, Nat.reduceMul, Nat.reduceBEq, Nat.reduceEqDiff, Int.reduceToNat, Int.reduceLT, Int.reduceLE, Nat.reduceSub, pl48, tsize_3, tbytes_3, tagg_3, zcells_3, telem_3, tint_3, tnotIface_3, tsize_4, tbytes_4, tagg_4, zcells_4, telem_4, tbool_4, tnotIface_4, tsize_23, tbytes_23, tagg_23, zcells_23, telem_23, tnotIface_23, tsize_45, tbytes_45, tagg_45, zcells_45, telem_45, tnotIface_45, foff_45_0, foff_45_1, foff_45_2, foff_45_3, fplaces_45, tsize_52, tbytes_52, tagg_52, zcells_52, telem_52, tnotIface_52, ints, bools, patO, a1, a5, a6, a7, a8, a9]
    refine ⟨fun h3 => ⟨by omega, by omega, fun h4 => ?_, fun h4 => ?_⟩, fun h3 => ?_⟩
    · have h5 := (hHg (by omega)).1 h4
      refine ⟨by omega, by omega, by omega, .inl ⟨n - (v + 1), by omega, v + 1, L2.set v k, k, rfl, by omega, by simp [hL2], fun u hu => ?_, fun u hu1 hu2 => ?_, .inl ⟨rfl, v, by omega, h5⟩, rfl, by omega, rfl⟩⟩
      · rw [getI_set (by omega)]
        split
        · rename_i e; subst e; omega
        · exact hlo u (by omega)
      · rw [getI_set (by omega), if_neg (by omega)]
        exact hhi u (by omega) hu2
    · have h5 : ¬ (k : Int) ≤ (coresOf st cs n).getD v default := fun hc => by
        have h6 := (hHg (by omega)).2 hc
        rw [h6] at h4
        first | exact h4 rfl | cases h4
      refine ⟨by omega, .inl ⟨n - (v + 1), by omega, v + 1, L2, M2, rfl, by omega, hL2, fun u hu => ?_, fun u hu1 hu2 => hhi u (by omega) hu2, ?_, rfl, by omega, rfl⟩⟩
      · rcases Nat.lt_or_ge u v with h6 | h6
        · exact hlo u h6
        · obtain rfl : u = v := by omega
          have := hhi u (Nat.le_refl _) (by omega)
          omega
      · rcases hM2 with ⟨h6, u, h7, h8⟩ | ⟨h6, h7⟩
        · exact .inl ⟨h6, u, by omega, h8⟩
        · refine .inr ⟨h6, fun u hu => ?_⟩
          rcases Nat.lt_or_ge u v with h8 | h8
          · exact h7 u h8
          · rw [show u = v by omega]; omega
    · obtain rfl : v = n := by omega
      obtain ⟨g0, g1⟩ := mxK_ge (C := coresOf st cs v) v
      refine ⟨by omega, .inl ⟨v + 1 - (k + 1), by omega, k + 1, L2, M2, rfl, by omega, by omega, hL2, fun u hu => by rw [hlo u hu]; omega, ?_, rfl, by omega, rfl⟩⟩
      rcases hM2 with ⟨h6, u, h7, h8⟩ | ⟨h6, h7⟩
      · have := g1 u h7
        omega
      · rcases mxK_at (C := coresOf st cs v) v with h8 | ⟨u, h8, h9⟩
        · omega
        · have := h7 u h8
          omega
  · have hLe : L = coresOf st cs n := list_ext_getD (by rw [hL]; exact hCl.symm) fun u hu => by
      have h3 := hLc u (by omega)
      have h4 := hCb u (by omega)
      unfold coresOf at h3 ⊢
      omega
    have hMe : M = mxK (coresOf st cs n) n := by
      rcases Nat.eq_zero_or_pos n with h3 | h3
      · subst h3
        simp only [mxK] at hM ⊢
        omega
      · obtain ⟨g0, g1⟩ := mxK_ge (C := coresOf st cs n) n
        rcases mxK_at (C := coresOf st cs n) n with h8 | ⟨u, h8, h9⟩
        · omega
        · have h4 := hCb u h8
          unfold coresOf at h9 hM ⊢
          omega
    rw [hMe, hLe]
    exact ⟨fun _ => .three (.flat _ rfl) (ofz_ints (l := coresOf st cs n) rfl hCl.symm) (.flat _ rfl), fun h => absurd hg h⟩
end Go.Proofs.Ytgdlkhgfehclpaa
