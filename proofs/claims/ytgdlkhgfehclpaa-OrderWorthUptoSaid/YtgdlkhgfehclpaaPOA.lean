/- How many neighbours stand ahead, the document's. No condition. -/
import Derived.Test.YtgdlkhgfehclpaaPOy
namespace Go.Proofs.Ytgdlkhgfehclpaa
open Go Go.AL
set_option linter.unusedVariables false
set_option linter.unusedSimpArgs false
theorem mxK_ge {C : List Int} : ∀ k, 0 ≤ mxK C k ∧ ∀ u, u < k → C.getD u default ≤ mxK C k
  | 0 => ⟨Int.le_refl _, fun u h => absurd h (Nat.not_lt_zero _)⟩
  | k + 1 => by
    obtain ⟨h1, h2⟩ := mxK_ge (C := C) k
    simp only [mxK]
    refine ⟨by omega, fun u hu => ?_⟩
    rcases Nat.lt_or_ge u k with h3 | h3
    · have := h2 u h3; omega
    · rw [show u = k by omega]; omega
theorem mxK_at {C : List Int} : ∀ k, mxK C k = 0 ∨ ∃ u, u < k ∧ mxK C k = C.getD u default
  | 0 => .inl rfl
  | k + 1 => by
    simp only [mxK]
    rcases Int.lt_or_le (mxK C k) (C.getD k default) with h1 | h1
    · exact .inr ⟨k, by omega, by omega⟩
    · rcases mxK_at (C := C) k with h2 | ⟨u, h2, h3⟩
      · left; omega
      · exact .inr ⟨u, by omega, by omega⟩
theorem mxK_uniq {C : List Int} {k : Nat} {M : Int} (h0 : 0 ≤ M) (h1 : ∀ u, u < k → C.getD u default ≤ M) (h2 : M = 0 ∨ ∃ u, u < k ∧ M = C.getD u default) : mxK C k = M := by
  obtain ⟨g0, g1⟩ := mxK_ge (C := C) k
  have ha : M ≤ mxK C k := by
    rcases h2 with h2 | ⟨u, h3, h4⟩
    · omega
    · have := g1 u h3; omega
  have hb : mxK C k ≤ M := by
    rcases mxK_at (C := C) k with h3 | ⟨u, h3, h4⟩
    · omega
    · have := h1 u h3; omega
  omega
theorem cnt_bk {st cs xs : List Int} {n : Nat} (hm : mayP n n st cs) (hxl : xs.length = n) (hord : ordOK xs.length xs) {S : List Bool} {i v : Nat} (hi : i < n) (hv : xs.getD i default = v) (hS : ∀ u : Nat, u < n → (S.getD u false = true ↔ ∃ j, j < i ∧ xs.getD j default = u)) : cnt st cs S v = bk st cs (invK xs xs.length) v := by
  have hvn : v < n := by
    have := (hord i (by omega)).2.1
    omega
  have q4 := (may_row hm (show v < (n : Int).toNat by omega)).2.2.2.1
  have hPv := invK_get hord xs.length (Nat.le_refl _) i (by omega)
  rw [hv, Int.toNat_natCast] at hPv
  unfold cnt bk
  congr 1
  refine List.filter_congr fun w hw => ?_
  obtain ⟨j, hj, e⟩ := mem_getD.1 hw
  have h1 := row_nonneg q4 hj
  have h2 := (q4 j hj).2
  obtain ⟨u, rfl⟩ := Int.eq_ofNat_of_zero_le (show 0 ≤ w by omega)
  rw [Int.toNat_natCast, hPv]
  obtain ⟨t, ht, e2⟩ := ord_onto hord (show u < xs.length by omega)
  have hPu := invK_get hord xs.length (Nat.le_refl _) t ht
  rw [e2, Int.toNat_natCast] at hPu
  rw [hPu]
  have key := hS u (by omega)
  rw [Bool.eq_iff_iff, key, decide_eq_true_iff]
  constructor
  · rintro ⟨j2, h3, h4⟩
    rcases Nat.lt_trichotomy j2 t with h5 | h5 | h5
    · have := (hord t ht).2.2 j2 h5; omega
    · omega
    · have := (hord j2 (by omega)).2.2 t h5; omega
  · intro h3; exact ⟨t, by omega, e2⟩
set_option maxHeartbeats 4000000 in
set_option maxRecDepth 100000 in
theorem backof_c (n : Nat) (st cs xs : List Int) (hb : st.length < 1000000000) (hb2 : cs.length < 1000000000) (hg : graphP n n st cs) (hn : n ≤ 128) (hxl : xs.length = n) (hord : ordOK xs.length xs) :
    ACalls Try.prog 87 [pat n n st cs, ints xs] [] fun v h => v = .tup [.int .i64 (mxK (bkL st cs (invK xs xs.length) n) n), .osl 2 1 0 n n true] ∧ h[2]? = some (.arr 1 (List.map intE (bkL st cs (invK xs xs.length) n)) true) := by
  refine (wp87 rfl rfl ?_)
  simp (maxSteps := 4000000) +contextual only [↓packA0, ↓packA1, ↓packA2, ↓reduceIte, packB0, packB1, packB2, packB3, packB4, pureOp, quietOp, loadOp, quietB, fr0, cellsK, Option.getD_some, Option.getD_none, implies_true, ite_true, ite_false, eq_self, ne_eq, reduceCtorEq, Nat.reduceLT, Nat.reduceLeDiff, Nat.reduceAdd, Nat.reduceMul, Nat.reduceBEq, Nat.reduceEqDiff, Int.reduceToNat, Int.reduceLT, Int.reduceLE, Nat.reduceSub, pl87, tsize_3, tbytes_3, tagg_3, zcells_3, telem_3, tint_3, tnotIface_3, tsize_4, tbytes_4, tagg_4, zcells_4, telem_4, tbool_4, tnotIface_4, tsize_23, tbytes_23, tagg_23, zcells_23, telem_23, tnotIface_23, tsize_45, tbytes_45, tagg_45, zcells_45, telem_45, tnotIface_45, foff_45_0, foff_45_1, foff_45_2, foff_45_3, fplaces_45, tsize_52, tbytes_52, tagg_52, zcells_52, telem_52, tnotIface_52, ints]
  refine ⟨by omega, by omega, ?_⟩
  refine LoopK.intro (fun m a h => ∃ (i : Nat) (S : List Bool) (L : List Int) (M : Int), m = n - i ∧ i ≤ n ∧ S.length = n ∧ L.length = n ∧ (∀ u : Nat, u < n → (S.getD u false = true ↔ ∃ j, j < i ∧ xs.getD j default = u)) ∧ (∀ j, j < i → L.getD (xs.getD j default).toNat default = bk st cs (invK xs xs.length) (xs.getD j default).toNat ∧ L.getD (xs.getD j default).toNat default ≤ M) ∧ 0 ≤ M ∧ (M = 0 ∨ ∃ j, j < i ∧ M = bk st cs (invK xs xs.length) (xs.getD j default).toNat) ∧
    a 1 = ints xs ∧ a 2 = .op 0 4 0 0 ∧ a 6 = .osl 1 1 0 n n true ∧ a 7 = .osl 2 1 0 n n true ∧ a 8 = .int .i64 M ∧ a 9 = .int .i64 i ∧ h = [patO n n st cs, Ob.arr 1 (List.map boolE S) true, Ob.arr 1 (List.map intE L) true]) n ⟨0, List.replicate n false, List.replicate n 0, 0, rfl, Nat.zero_le _, by simp, by simp, fun u hu => ?_, fun j hj => by omega, Int.le_refl _, .inl rfl, ?_⟩ ?_
  · rw [List.getD_eq_getElem?_getD, List.getElem?_replicate, if_pos hu]
    simp
  · simp (maxSteps := 4000000) only [↓packA0, ↓packA1, ↓packA2, ↓reduceIte, packB0, packB1, packB2, packB3, packB4, pureOp, quietOp, loadOp, quietB, fr0, cellsK, Option.getD_some, Option.getD_none, implies_true, ite_true, ite_false, eq_self, ne_eq, reduceCtorEq, Nat.reduceLT, Nat.reduceLeDiff, Nat.reduceAdd, Nat.reduceMul, Nat.reduceBEq, Nat.reduceEqDiff, Int.reduceToNat, Int.reduceLT, Int.reduceLE, Nat.reduceSub, pl87, tsize_3, tbytes_3, tagg_3, zcells_3, telem_3, tint_3, tnotIface_3, tsize_4, tbytes_4, tagg_4, zcells_4, telem_4, tbool_4, tnotIface_4, tsize_23, tbytes_23, tagg_23, zcells_23, telem_23, tnotIface_23, tsize_45, tbytes_45, tagg_45, zcells_45, telem_45, tnotIface_45, foff_45_0, foff_45_1, foff_45_2, foff_45_3, fplaces_45, tsize_52, tbytes_52, tagg_52, zcells_52, telem_52, tnotIface_52, ints, patO, Int.natCast_zero]
  rintro m a h ⟨i, S, L, M, rfl, hi, hS, hL, hSs, hLs, hM0, hMs, a1, a2, a6, a7, a8, a9, rfl⟩
  simp (maxSteps := 4000000) +contextual only [↓packA0, ↓packA1, ↓packA2, ↓reduceIte, packB0, packB1, packB2, packB3, packB4, pureOp, quietOp, loadOp, quietB, fr0, cellsK, Option.getD_some, Option.getD_none, implies_true, ite_true, ite_false, eq_self, ne_eq, reduceCtorEq, Nat.reduceLT, Nat.reduceLeDiff, Nat.reduceAdd, Nat.reduceMul, Nat.reduceBEq, Nat.reduceEqDiff, Int.reduceToNat, Int.reduceLT, Int.reduceLE, Nat.reduceSub, pl87, tsize_3, tbytes_3, tagg_3, zcells_3, telem_3, tint_3, tnotIface_3, tsize_4, tbytes_4, tagg_4, zcells_4, telem_4, tbool_4, tnotIface_4, tsize_23, tbytes_23, tagg_23, zcells_23, telem_23, tnotIface_23, tsize_45, tbytes_45, tagg_45, zcells_45, telem_45, tnotIface_45, foff_45_0, foff_45_1, foff_45_2, foff_45_3, fplaces_45, tsize_52, tbytes_52, tagg_52, zcells_52, telem_52, tnotIface_52, ints, patO, a1, a2, a6, a7, a8, a9]
  refine ⟨fun h2 => ?_, fun h2 => ?_⟩
  · have hin : i < n := by omega
    have hx0 := hord i (by omega)
    obtain ⟨v, hv⟩ := Int.eq_ofNat_of_zero_le hx0.1
    have hvn : v < n := by
      have := hx0.2.1
      omega
    have hcb := cnt_bk hg.1.1 hxl hord hin hv hSs
    simp only [hv, mk_eq]
    refine ⟨by omega, by omega, acalls_lend (among_c n st cs S hb hb2 hg.1.1 hn v hvn hS) ?_ rfl ?_⟩
    · exact .cons (.pure _ rfl) (.cons (.pure _ rfl) (.cons (frz_bools (l := S) rfl hS) .nil))
    rw [hcb]
    have hgs : ∀ z, (L.set v z).getD v default = z := fun z => by simp [List.getD_eq_getElem?_getD, List.getElem?_set_self (show v < L.length by omega)]
    simp (maxSteps := 4000000) +contextual only [↓packA0, ↓packA1, ↓packA2, ↓reduceIte, packB0, packB1, packB2, packB3, packB4, pureOp, quietOp, loadOp, quietB, fr0, cellsK, Option.getD_some, Option.getD_none, implies_true, ite_true, ite_false, eq_self, ne_eq, reduceCtorEq, Nat.reduceLT, Nat.reduceLeDiff, Nat.reduceAdd, Nat.reduceMul, Nat.reduceBEq, Nat.reduceEqDiff, Int.reduceToNat, Int.reduceLT, Int.reduceLE, Nat.reduceSub, pl87, tsize_3, tbytes_3, tagg_3, zcells_3, telem_3, tint_3, tnotIface_3, tsize_4, tbytes_4, tagg_4, zcells_4, telem_4, tbool_4, tnotIface_4, tsize_23, tbytes_23, tagg_23, zcells_23, telem_23, tnotIface_23, tsize_45, tbytes_45, tagg_45, zcells_45, telem_45, tnotIface_45, foff_45_0, foff_45_1, foff_45_2, foff_45_3, fplaces_45, tsize_52, tbytes_52, tagg_52, zcells_52, telem_52, tnotIface_52, ints, patO, a1, a2, a6, a7, a8, a9, hv, hgs]
    have hnj : ∀ j, j < i → (xs.getD j default).toNat ≠ v := fun j hj => by
      have h3 := hx0.2.2 j hj
      have h4 := (hord j (by omega)).1
      omega
    have fin1 : ∀ u : Nat, u < n → ((S.set v true).getD u false = true ↔ ∃ j, j < i + 1 ∧ xs.getD j default = u) := fun u hu => by
      by_cases c : v = u
      · subst c
        simp only [List.getD_eq_getElem?_getD, List.getElem?_set_self (show v < S.length by omega)]
        simp only [Option.getD_some, true_iff]
        exact ⟨i, by omega, by rw [← List.getD_eq_getElem?_getD]; exact hv⟩
      · simp only [List.getD_eq_getElem?_getD, List.getElem?_set_ne c]
        rw [← List.getD_eq_getElem?_getD, hSs u hu]
        constructor
        · rintro ⟨j, h3, h4⟩; exact ⟨j, by omega, by rw [← List.getD_eq_getElem?_getD]; exact h4⟩
        · rintro ⟨j, h3, h4⟩
          rw [← List.getD_eq_getElem?_getD] at h4
          refine ⟨j, ?_, h4⟩
          rcases Nat.lt_or_ge j i with h5 | h5
          · exact h5
          · rw [show j = i by omega] at h4; omega
    have fin2 : ∀ M' : Int, M ≤ M' → (bk st cs (invK xs xs.length) v : Int) ≤ M' → ∀ j, j < i + 1 → (L.set v (bk st cs (invK xs xs.length) v : Int)).getD (xs.getD j default).toNat default = bk st cs (invK xs xs.length) (xs.getD j default).toNat ∧ (L.set v (bk st cs (invK xs xs.length) v : Int)).getD (xs.getD j default).toNat default ≤ M' := fun M' h3 h4 j hj => by
      rcases Nat.lt_or_ge j i with h5 | h5
      · rw [getD_set_ne (Ne.symm (hnj j h5))]
        have := hLs j h5
        exact ⟨this.1, by omega⟩
      · rw [show j = i by omega, hv, Int.toNat_natCast, hgs]
        exact ⟨rfl, h4⟩
    refine ⟨by omega, by omega, by omega, by omega, fun h3 => ?_, fun h3 => ?_⟩
    · exact ⟨by omega, by omega, by omega, by omega, by omega, .inl ⟨n - (i + 1), by omega, i + 1, S.set v true, L.set v (bk st cs (invK xs xs.length) v : Int), _, rfl, by omega, by simp [hS], by simp [hL], fin1, fin2 _ (by omega) (Int.le_refl _), by omega, .inr ⟨i, by omega, by rw [hv, Int.toNat_natCast]⟩, rfl, by omega, rfl⟩⟩
    · exact ⟨by omega, by omega, by omega, .inl ⟨n - (i + 1), by omega, i + 1, S.set v true, L.set v (bk st cs (invK xs xs.length) v : Int), M, rfl, by omega, by simp [hS], by simp [hL], fin1, fin2 _ (Int.le_refl _) (by omega), hM0, hMs.imp_right fun ⟨j, h4, h5⟩ => ⟨j, by omega, h5⟩, rfl, by omega, rfl⟩⟩
  · obtain rfl : i = n := by omega
    have hon : ∀ u, u < i → ∃ j, j < i ∧ xs.getD j default = (u : Nat) := fun u hu => by
      obtain ⟨j, h3, h4⟩ := ord_onto hord (show u < xs.length by omega)
      exact ⟨j, by omega, h4⟩
    have hLe : L = bkL st cs (invK xs xs.length) i := list_ext_getD (by rw [hL, bkL_len]) fun u hu => by
      obtain ⟨j, h3, h4⟩ := hon u (by omega)
      have h5 := (hLs j h3).1
      rw [h4, Int.toNat_natCast] at h5
      rw [h5, bkL_get (by omega)]
    have hMe : mxK (bkL st cs (invK xs xs.length) i) i = M := mxK_uniq hM0 (fun u hu => by
      obtain ⟨j, h3, h4⟩ := hon u hu
      have h5 := (hLs j h3).2
      rw [h4, Int.toNat_natCast] at h5
      rw [← hLe]; exact h5) (hMs.imp_right fun ⟨j, h3, h4⟩ => by
      have h5 := hord j (by omega)
      exact ⟨(xs.getD j default).toNat, by have := h5.1; have := h5.2.1; omega, by rw [bkL_get (by have := h5.1; have := h5.2.1; omega)]; exact h4⟩)
    rw [hMe, ← hLe]
    exact ⟨rfl, rfl⟩
set_option maxRecDepth 100000 in
theorem rback_c (rows width : Int) (st cs xs : List Int) (hb : st.length < 1000000000) (hb2 : cs.length < 1000000000) (hbx : xs.length < 1000000000) : ACalls Try.prog 55 [pat rows width st cs, ints xs] [] fun v h => OFz h v (backV rows width st cs xs) := by
  refine (wp55 rfl rfl ?_)
  simp (maxSteps := 4000000) +contextual only [↓packA0, ↓packA1, ↓packA2, ↓reduceIte, packB0, packB1, packB2, packB3, packB4, pureOp, quietOp, loadOp, quietB, fr0, cellsK, Option.getD_some, Option.getD_none, implies_true, ite_true, ite_false, eq_self, ne_eq, reduceCtorEq, Nat.reduceLT, Nat.reduceLeDiff, Nat.reduceAdd, Nat.reduceMul, Nat.reduceBEq, Nat.reduceEqDiff, Int.reduceToNat, Int.reduceLT, Int.reduceLE, Nat.reduceSub, pl55, tsize_3, tbytes_3, tagg_3, zcells_3, telem_3, tint_3, tnotIface_3, tsize_4, tbytes_4, tagg_4, zcells_4, telem_4, tbool_4, tnotIface_4, tsize_23, tbytes_23, tagg_23, zcells_23, telem_23, tnotIface_23, tsize_45, tbytes_45, tagg_45, zcells_45, telem_45, tnotIface_45, foff_45_0, foff_45_1, foff_45_2, foff_45_3, fplaces_45, ints]
  refine acalls_pure (rgraph_c rows width st cs hb hb2) rfl ?_
  simp (maxSteps := 4000000) +contextual only [↓packA0, ↓packA1, ↓packA2, ↓reduceIte, packB0, packB1, packB2, packB3, packB4, pureOp, quietOp, loadOp, quietB, fr0, cellsK, Option.getD_some, Option.getD_none, implies_true, ite_true, ite_false, eq_self, ne_eq, reduceCtorEq, Nat.reduceLT, Nat.reduceLeDiff, Nat.reduceAdd, Nat.reduceMul, Nat.reduceBEq, Nat.reduceEqDiff, Int.reduceToNat, Int.reduceLT, Int.reduceLE, Nat.reduceSub, pl55, tsize_3, tbytes_3, tagg_3, zcells_3, telem_3, tint_3, tnotIface_3, tsize_4, tbytes_4, tagg_4, zcells_4, telem_4, tbool_4, tnotIface_4, tsize_23, tbytes_23, tagg_23, zcells_23, telem_23, tnotIface_23, tsize_45, tbytes_45, tagg_45, zcells_45, telem_45, tnotIface_45, foff_45_0, foff_45_1, foff_45_2, foff_45_3, fplaces_45, ints]
  refine ⟨fun hg => ?_, fun hg => ?_⟩
  rotate_left
  · rw [show backV rows width st cs xs = .tup [.int .i64 0, ints [], .int .i64 220] from if_neg hg]
    exact .three (.flat _ rfl) (.nils 1) (.flat _ rfl)
  obtain ⟨n, rfl, rfl, hn⟩ := graph_sides hg
  refine acalls_pure (checkr_c n xs) rfl ?_
  simp (maxSteps := 4000000) +contextual only [↓packA0, ↓packA1, ↓packA2, ↓reduceIte, packB0, packB1, packB2, packB3, packB4, pureOp, quietOp, loadOp, quietB, fr0, cellsK, Option.getD_some, Option.getD_none, implies_true, ite_true, ite_false, eq_self, ne_eq, reduceCtorEq, Nat.reduceLT, Nat.reduceLeDiff, Nat.reduceAdd, Nat.reduceMul, Nat.reduceBEq, Nat.reduceEqDiff, Int.reduceToNat, Int.reduceLT, Int.reduceLE, Nat.reduceSub, pl55, tsize_3, tbytes_3, tagg_3, zcells_3, telem_3, tint_3, tnotIface_3, tsize_4, tbytes_4, tagg_4, zcells_4, telem_4, tbool_4, tnotIface_4, tsize_23, tbytes_23, tagg_23, zcells_23, telem_23, tnotIface_23, tsize_45, tbytes_45, tagg_45, zcells_45, telem_45, tnotIface_45, foff_45_0, foff_45_1, foff_45_2, foff_45_3, fplaces_45, ints]
  refine ⟨fun h1 => ?_, fun h1 => ?_⟩
  · rw [show backV n n st cs xs = .tup [.int .i64 0, ints [], .int .i64 182] from (if_pos hg).trans (if_neg h1)]
    exact .three (.flat _ rfl) (.nils 1) (.flat _ rfl)
  obtain ⟨_, _, hxl, hord⟩ := checkR_zero h1
  rw [← hxl] at hord
  have hinv : invR xs = invK xs xs.length := (invR_ok (by rw [hxl]; exact h1)).1
  have hbv : backV n n st cs xs = .tup [.int .i64 (mxK (bkL st cs (invK xs xs.length) n) n), ints (bkL st cs (invK xs xs.length) n), .int .i64 0] := (if_pos hg).trans ((if_pos h1).trans (by rw [Int.toNat_natCast, hinv]))
  rw [hbv]
  refine acalls_shift (backof_c n st cs xs hb hb2 hg hn (by omega) hord) (by simp [pures, AV.pure, ints]) ?_
  rintro u h0 ⟨rfl, hz⟩
  generalize hh : ([Ob.arr 4 [[.int .i64 (n : Int), .int .i64 (n : Int), .isl 1 (List.map intE st), .isl 1 (List.map intE cs)]] true] : Heap) = hp
  have key : (behind hp h0)[2 + hp.length]? = some (.arr 1 (List.map intE (bkL st cs (invK xs xs.length) n)) true) := by
    rw [behind_eq, List.getElem?_append_right (by omega), Nat.add_sub_cancel, List.getElem?_map, hz]
    simp [ren_intEs]
  generalize behind hp h0 = G at *
  simp (maxSteps := 4000000) +contextual only [↓packA0, ↓packA1, ↓packA2, ↓reduceIte, packB0, packB1, packB2, packB3, packB4, pureOp, quietOp, loadOp, quietB, fr0, cellsK, Option.getD_some, Option.getD_none, implies_true, ite_true, ite_false, eq_self, ne_eq, reduceCtorEq, Nat.reduceLT, Nat.reduceLeDiff, Nat.reduceAdd, Nat.reduceMul, Nat.reduceBEq, Nat.reduceEqDiff, Int.reduceToNat, Int.reduceLT, Int.reduceLE, Nat.reduceSub, pl55, tsize_3, tbytes_3, tagg_3, zcells_3, telem_3, tint_3, tnotIface_3, tsize_4, tbytes_4, tagg_4, zcells_4, telem_4, tbool_4, tnotIface_4, tsize_23, tbytes_23, tagg_23, zcells_23, telem_23, tnotIface_23, tsize_45, tbytes_45, tagg_45, zcells_45, telem_45, tnotIface_45, foff_45_0, foff_45_1, foff_45_2, foff_45_3, fplaces_45, ints]
  exact .three (.flat _ rfl) (ofz_ints (l := bkL st cs (invK xs xs.length) n) key bkL_len.symm) (.flat _ rfl)
end Go.Proofs.Ytgdlkhgfehclpaa
