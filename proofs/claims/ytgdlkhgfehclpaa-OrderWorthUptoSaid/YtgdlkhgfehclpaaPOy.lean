/- How many neighbours stand ahead: Back, both. No condition. -/
import Derived.Test.YtgdlkhgfehclpaaPOx
namespace Go.Proofs.Ytgdlkhgfehclpaa
open Go Go.AL
set_option linter.unusedVariables false
set_option linter.unusedSimpArgs false
def bools (S : List Bool) : AV := .isl 1 (List.map boolE S)
theorem frz_bools {h : Heap} {id len cap : Nat} {ex ex' : Bool} {l : List Bool} (hid : h[id]? = some (.arr 1 (List.map boolE l) ex')) (hn : l.length = len) : Frz h (.osl id 1 0 len cap ex) (bools l) := by
  have := Frz.flat (h := h) (id := id) (k := 1) (i := 0) (len := len) (cap := cap) (ex := ex) hid (by simp; omega) (fun e he => by
    obtain ⟨x, _, rfl⟩ := List.mem_map.1 he; rfl)
  rw [List.drop_zero, List.take_of_length_le (by simp; omega)] at this
  exact this
theorem ftake {α : Type} [Inhabited α] {p : α → Bool} {l : List α} {k : Nat} (hk : k < l.length) : ((l.take (k + 1)).filter p).length = ((l.take k).filter p).length + if p (l.getD k default) = true then 1 else 0 := by
  have e : l.getD k default = l[k] := by simp [List.getD_eq_getElem?_getD, List.getElem?_eq_getElem hk]
  rw [List.take_add_one, List.getElem?_eq_getElem hk, List.filter_append, List.length_append, e]
  simp only [Option.toList, List.filter_cons, List.filter_nil]
  split <;> rfl
set_option maxRecDepth 100000 in
theorem among_c (n : Nat) (st cs : List Int) (S : List Bool) (hb : st.length < 1000000000) (hb2 : cs.length < 1000000000) (hm : mayP n n st cs) (hn : n ≤ 128) (v : Nat) (hv : v < n) (hS : S.length = n) : APure Try.prog 93 [pat n n st cs, .int .i64 v, bools S] (.int .i64 (cnt st cs S v)) := by
  have q4 := (may_row hm (show v < (n : Int).toNat by omega)).2.2.2.1
  have hrl := row_len hm hv
  refine apure_of (wp93 rfl rfl ?_)
  simp (maxSteps := 4000000) +contextual only [↓packA0, ↓packA1, ↓packA2, ↓reduceIte, packB0, packB1, packB2, packB3, packB4, pureOp, quietOp, loadOp, quietB, fr0, cellsK, Option.getD_some, Option.getD_none, implies_true, ite_true, ite_false, eq_self, ne_eq, reduceCtorEq, Nat.reduceLT, Nat.reduceLeDiff, Nat.reduceAdd, Nat.reduceMul, Nat.reduceBEq, Nat.reduceEqDiff, Int.reduceToNat, Int.reduceLT, Int.reduceLE, Nat.reduceSub, pl93, tsize_3, tbytes_3, tagg_3, zcells_3, telem_3, tint_3, tnotIface_3, tsize_4, tbytes_4, tagg_4, zcells_4, telem_4, tbool_4, tnotIface_4, tsize_23, tbytes_23, tagg_23, zcells_23, telem_23, tnotIface_23, tsize_45, tbytes_45, tagg_45, zcells_45, telem_45, tnotIface_45, foff_45_0, foff_45_1, foff_45_2, foff_45_3, fplaces_45, tsize_52, tbytes_52, tagg_52, zcells_52, telem_52, tnotIface_52, ints, bools]
  refine acalls_pure (rneigh_c n n st cs hb hb2 hm v (by omega) (by omega)) rfl ?_
  simp (maxSteps := 4000000) +contextual only [↓packA0, ↓packA1, ↓packA2, ↓reduceIte, packB0, packB1, packB2, packB3, packB4, pureOp, quietOp, loadOp, quietB, fr0, cellsK, Option.getD_some, Option.getD_none, implies_true, ite_true, ite_false, eq_self, ne_eq, reduceCtorEq, Nat.reduceLT, Nat.reduceLeDiff, Nat.reduceAdd, Nat.reduceMul, Nat.reduceBEq, Nat.reduceEqDiff, Int.reduceToNat, Int.reduceLT, Int.reduceLE, Nat.reduceSub, pl93, tsize_3, tbytes_3, tagg_3, zcells_3, telem_3, tint_3, tnotIface_3, tsize_4, tbytes_4, tagg_4, zcells_4, telem_4, tbool_4, tnotIface_4, tsize_23, tbytes_23, tagg_23, zcells_23, telem_23, tnotIface_23, tsize_45, tbytes_45, tagg_45, zcells_45, telem_45, tnotIface_45, foff_45_0, foff_45_1, foff_45_2, foff_45_3, fplaces_45, tsize_52, tbytes_52, tagg_52, zcells_52, telem_52, tnotIface_52, ints, bools]
  refine LoopK.intro (fun m a h => ∃ j : Nat, m = (rowOf st cs v).length - j ∧ j ≤ (rowOf st cs v).length ∧ a 2 = bools S ∧ a 7 = .int .i64 (((rowOf st cs v).take j).filter (fun w => S.getD w.toNat false)).length ∧ a 8 = ints (rowOf st cs v) ∧ a 9 = .int .i64 j ∧ h = [patO n n st cs]) (rowOf st cs v).length ⟨0, rfl, Nat.zero_le _, ?_⟩ ?_
  · simp (maxSteps := 4000000) only [↓packA0, ↓packA1, ↓packA2, ↓reduceIte, packB0, packB1, packB2, packB3, packB4, pureOp, quietOp, loadOp, quietB, fr0, cellsK, Option.getD_some, Option.getD_none, implies_true, ite_true, ite_false, eq_self, ne_eq, reduceCtorEq, Nat.reduceLT, Nat.reduceLeDiff, Nat.reduceAdd, Nat.reduceMul, Nat.reduceBEq, Nat.reduceEqDiff, Int.reduceToNat, Int.reduceLT, Int.reduceLE, Nat.reduceSub, pl93, tsize_3, tbytes_3, tagg_3, zcells_3, telem_3, tint_3, tnotIface_3, tsize_4, tbytes_4, tagg_4, zcells_4, telem_4, tbool_4, tnotIface_4, tsize_23, tbytes_23, tagg_23, zcells_23, telem_23, tnotIface_23, tsize_45, tbytes_45, tagg_45, zcells_45, telem_45, tnotIface_45, foff_45_0, foff_45_1, foff_45_2, foff_45_3, fplaces_45, tsize_52, tbytes_52, tagg_52, zcells_52, telem_52, tnotIface_52, ints, bools, patO, Int.natCast_zero]
    rfl
  rintro m a h ⟨j, rfl, hj, a2, a7, a8, a9, rfl⟩
  simp (maxSteps := 4000000) +contextual only [↓packA0, ↓packA1, ↓packA2, ↓reduceIte, packB0, packB1, packB2, packB3, packB4, pureOp, quietOp, loadOp, quietB, fr0, cellsK, Option.getD_some, Option.getD_none, implies_true, ite_true, ite_false, eq_self, ne_eq, reduceCtorEq, Nat.reduceLT, Nat.reduceLeDiff, Nat.reduceAdd, Nat.reduceMul, Nat.reduceBEq, Nat.reduceEqDiff, Int.reduceToNat, Int.reduceLT, Int.reduceLE, Nat.reduceSub, pl93, tsize_3, tbytes_3, tagg_3, zcells_3, telem_3, tint_3, tnotIface_3, tsize_4, tbytes_4, tagg_4, zcells_4, telem_4, tbool_4, tnotIface_4, tsize_23, tbytes_23, tagg_23, zcells_23, telem_23, tnotIface_23, tsize_45, tbytes_45, tagg_45, zcells_45, telem_45, tnotIface_45, foff_45_0, foff_45_1, foff_45_2, foff_45_3, fplaces_45, tsize_52, tbytes_52, tagg_52, zcells_52, telem_52, tnotIface_52, ints, bools, patO, a2, a7, a8, a9]
  refine ⟨fun h2 => ?_, fun h2 => ?_⟩
  · have hj2 : j < (rowOf st cs v).length := by omega
    have h3 := row_nonneg q4 hj2
    have h4 := (q4 j hj2).2
    have hft := ftake (p := fun w : Int => S.getD w.toNat false) hj2
    have hfl : (((rowOf st cs v).take j).filter (fun w : Int => S.getD w.toNat false)).length ≤ 128 := Nat.le_trans (List.length_filter_le _ _) (by simp; omega)
    refine ⟨by omega, by omega, by omega, by omega, fun h5 => ?_, fun h5 => ?_⟩
    · rw [if_pos (show S.getD ((rowOf st cs v).getD j default).toNat false = true from h5)] at hft
      exact ⟨by omega, by omega, .inl ⟨(rowOf st cs v).length - (j + 1), by omega, j + 1, rfl, by omega, by omega, by omega⟩⟩
    · rw [if_neg (show ¬ S.getD ((rowOf st cs v).getD j default).toNat false = true from fun hc => by first | exact h5 hc | (rw [show S.getD ((rowOf st cs v).getD j default).toNat default = true from hc] at h5; cases h5))] at hft
      exact ⟨by omega, .inl ⟨(rowOf st cs v).length - (j + 1), by omega, j + 1, rfl, by omega, by omega, by omega⟩⟩
  · obtain rfl : j = (rowOf st cs v).length := by omega
    rw [List.take_length]
    exact .pure _ rfl
/-- How many of a vertex's neighbours have a lesser place. -/
def bk (st cs P : List Int) (v : Nat) : Nat := ((rowOf st cs v).filter (fun w => decide (P.getD w.toNat default < P.getD v default))).length
def bkL (st cs P : List Int) (n : Nat) : List Int := (List.range n).map fun v => ((bk st cs P v : Nat) : Int)
theorem bkL_len {st cs P : List Int} {n : Nat} : (bkL st cs P n).length = n := by simp [bkL]
theorem bkL_get {st cs P : List Int} {n v : Nat} (h : v < n) : (bkL st cs P n).getD v default = bk st cs P v := by
  simp [bkL, List.getD_eq_getElem?_getD, List.getElem?_map, List.getElem?_range h]
noncomputable def backV (rows width : Int) (st cs xs : List Int) : AV := if graphP rows width st cs then (if checkR rows xs = 0 then .tup [.int .i64 (mxK (bkL st cs (invR xs) rows.toNat) rows.toNat), ints (bkL st cs (invR xs) rows.toNat), .int .i64 0] else .tup [.int .i64 0, ints [], .int .i64 182]) else .tup [.int .i64 0, ints [], .int .i64 220]
theorem backV_form (rows width : Int) (st cs xs : List Int) : ∃ a l e, backV rows width st cs xs = .tup [.int .i64 a, ints l, .int .i64 e] ∧ l.length ≤ 128 := by
  unfold backV
  split
  · rename_i hg
    have := hg.1.1.1
    split
    · exact ⟨_, _, _, rfl, by rw [bkL_len]; omega⟩
    · exact ⟨_, _, _, rfl, Nat.zero_le _⟩
  · exact ⟨_, _, _, rfl, Nat.zero_le _⟩
set_option maxHeartbeats 4000000 in
set_option maxRecDepth 100000 in
theorem back_c (rows width : Int) (st cs xs : List Int) (hb : st.length < 1000000000) (hb2 : cs.length < 1000000000) (hbx : xs.length < 1000000000) : ACalls Try.prog 33 [pat rows width st cs, ints xs] [] fun v h => OFz h v (backV rows width st cs xs) := by
  refine (wp33 rfl rfl ?_)
  simp (maxSteps := 4000000) +contextual only [↓packA0, ↓packA1, ↓packA2, ↓reduceIte, packB0, packB1, packB2, packB3, packB4, pureOp, quietOp, loadOp, quietB, fr0, cellsK, Option.getD_some, Option.getD_none, implies_true, ite_true, ite_false, eq_self, ne_eq, reduceCtorEq, Nat.reduceLT, Nat.reduceLeDiff, Nat.reduceAdd, Nat.reduceMul, Nat.reduceBEq, Nat.reduceEqDiff, Int.reduceToNat, Int.reduceLT, Int.reduceLE, Nat.reduceSub, pl33, tsize_3, tbytes_3, tagg_3, zcells_3, telem_3, tint_3, tnotIface_3, tsize_4, tbytes_4, tagg_4, zcells_4, telem_4, tbool_4, tnotIface_4, tsize_23, tbytes_23, tagg_23, zcells_23, telem_23, tnotIface_23, tsize_45, tbytes_45, tagg_45, zcells_45, telem_45, tnotIface_45, foff_45_0, foff_45_1, foff_45_2, foff_45_3, fplaces_45, tsize_53, tbytes_53, tagg_53, zcells_53, telem_53, tint_53, tnotIface_53, ints]
  refine acalls_pure (graph_c rows width st cs hb hb2) rfl ?_
  simp (maxSteps := 4000000) +contextual only [↓packA0, ↓packA1, ↓packA2, ↓reduceIte, packB0, packB1, packB2, packB3, packB4, pureOp, quietOp, loadOp, quietB, fr0, cellsK, Option.getD_some, Option.getD_none, implies_true, ite_true, ite_false, eq_self, ne_eq, reduceCtorEq, Nat.reduceLT, Nat.reduceLeDiff, Nat.reduceAdd, Nat.reduceMul, Nat.reduceBEq, Nat.reduceEqDiff, Int.reduceToNat, Int.reduceLT, Int.reduceLE, Nat.reduceSub, pl33, tsize_3, tbytes_3, tagg_3, zcells_3, telem_3, tint_3, tnotIface_3, tsize_4, tbytes_4, tagg_4, zcells_4, telem_4, tbool_4, tnotIface_4, tsize_23, tbytes_23, tagg_23, zcells_23, telem_23, tnotIface_23, tsize_45, tbytes_45, tagg_45, zcells_45, telem_45, tnotIface_45, foff_45_0, foff_45_1, foff_45_2, foff_45_3, fplaces_45, tsize_53, tbytes_53, tagg_53, zcells_53, telem_53, tint_53, tnotIface_53, ints]
  refine ⟨fun hg => ?_, fun hg => ?_⟩
  rotate_left
  · rw [show backV rows width st cs xs = .tup [.int .i64 0, ints [], .int .i64 220] from if_neg hg]
    exact .three (.flat _ rfl) (.nils 1) (.flat _ rfl)
  obtain ⟨n, rfl, rfl, hn⟩ := graph_sides hg
  refine acalls_pure (check_c n xs) rfl ?_
  simp (maxSteps := 4000000) +contextual only [↓packA0, ↓packA1, ↓packA2, ↓reduceIte, packB0, packB1, packB2, packB3, packB4, pureOp, quietOp, loadOp, quietB, fr0, cellsK, Option.getD_some, Option.getD_none, implies_true, ite_true, ite_false, eq_self, ne_eq, reduceCtorEq, Nat.reduceLT, Nat.reduceLeDiff, Nat.reduceAdd, Nat.reduceMul, Nat.reduceBEq, Nat.reduceEqDiff, Int.reduceToNat, Int.reduceLT, Int.reduceLE, Nat.reduceSub, pl33, tsize_3, tbytes_3, tagg_3, zcells_3, telem_3, tint_3, tnotIface_3, tsize_4, tbytes_4, tagg_4, zcells_4, telem_4, tbool_4, tnotIface_4, tsize_23, tbytes_23, tagg_23, zcells_23, telem_23, tnotIface_23, tsize_45, tbytes_45, tagg_45, zcells_45, telem_45, tnotIface_45, foff_45_0, foff_45_1, foff_45_2, foff_45_3, fplaces_45, tsize_53, tbytes_53, tagg_53, zcells_53, telem_53, tint_53, tnotIface_53, ints]
  refine ⟨fun h1 => ?_, fun h1 => ?_⟩
  · rw [show backV n n st cs xs = .tup [.int .i64 0, ints [], .int .i64 182] from (if_pos hg).trans (if_neg h1)]
    exact .three (.flat _ rfl) (.nils 1) (.flat _ rfl)
  have hbv : backV n n st cs xs = .tup [.int .i64 (mxK (bkL st cs (invR xs) n) n), ints (bkL st cs (invR xs) n), .int .i64 0] := (if_pos hg).trans ((if_pos h1).trans (by rw [Int.toNat_natCast]))
  rw [hbv]
  obtain ⟨_, _, hxl, hord⟩ := checkR_zero h1
  have hxn : xs.length = n := by omega
  have hPl : (invR xs).length = n := by rw [(invR_ok (by rw [hxl]; exact h1)).1, invK_length]; exact hxn
  refine acalls_fresh (inverse_c xs (by omega)) ?_ (fun u h0 hz => ⟨_, hz, ?_⟩)
  · exact .cons (.pure _ rfl) .nil
  generalize invR xs = P at *
  simp (maxSteps := 4000000) +contextual only [↓packA0, ↓packA1, ↓packA2, ↓reduceIte, packB0, packB1, packB2, packB3, packB4, pureOp, quietOp, loadOp, quietB, fr0, cellsK, Option.getD_some, Option.getD_none, implies_true, ite_true, ite_false, eq_self, ne_eq, reduceCtorEq, Nat.reduceLT, Nat.reduceLeDiff, Nat.reduceAdd, Nat.reduceMul, Nat.reduceBEq, Nat.reduceEqDiff, Int.reduceToNat, Int.reduceLT, Int.reduceLE, Nat.reduceSub, pl33, tsize_3, tbytes_3, tagg_3, zcells_3, telem_3, tint_3, tnotIface_3, tsize_4, tbytes_4, tagg_4, zcells_4, telem_4, tbool_4, tnotIface_4, tsize_23, tbytes_23, tagg_23, zcells_23, telem_23, tnotIface_23, tsize_45, tbytes_45, tagg_45, zcells_45, telem_45, tnotIface_45, foff_45_0, foff_45_1, foff_45_2, foff_45_3, fplaces_45, tsize_53, tbytes_53, tagg_53, zcells_53, telem_53, tint_53, tnotIface_53, ints]
  refine ⟨by omega, ?_⟩
  refine LoopK.intro (fun m a h => ∃ (k : Nat) (L : List Int), m = n - k ∧ k ≤ n ∧ L.length = n ∧ (∀ u : Nat, u < k → L.getD u default = bk st cs P u) ∧ (∀ u : Nat, k ≤ u → u < n → L.getD u default = 0) ∧ a 2 = .op 0 4 0 0 ∧ a 7 = ints P ∧ a 9 = .int .i64 (mxK (bkL st cs P n) k) ∧ a 10 = .osl 1 1 0 n n true ∧ a 31 = .int .i64 n ∧ a 32 = .int .i64 k ∧ h = [patO n n st cs, Ob.arr 1 (List.map intE L) true]) n ⟨0, List.replicate n 0, rfl, Nat.zero_le _, by simp, fun u hu => by omega, fun u _ hu => by simp [List.getD_eq_getElem?_getD, List.getElem?_replicate, hu], ?_⟩ ?_
  · simp (maxSteps := 4000000) only [↓packA0, ↓packA1, ↓packA2, ↓reduceIte, packB0, packB1, packB2, packB3, packB4, pureOp, quietOp, loadOp, quietB, fr0, cellsK, Option.getD_some, Option.getD_none, implies_true, ite_true, ite_false, eq_self, ne_eq, reduceCtorEq, Nat.reduceLT, Nat.reduceLeDiff, Nat.reduceAdd, Nat.reduceMul, Nat.reduceBEq, Nat.reduceEqDiff, Int.reduceToNat, Int.reduceLT, Int.reduceLE, Nat.reduceSub, pl33, tsize_3, tbytes_3, tagg_3, zcells_3, telem_3, tint_3, tnotIface_3, tsize_4, tbytes_4, tagg_4, zcells_4, telem_4, tbool_4, tnotIface_4, tsize_23, tbytes_23, tagg_23, zcells_23, telem_23, tnotIface_23, tsize_45, tbytes_45, tagg_45, zcells_45, telem_45, tnotIface_45, foff_45_0, foff_45_1, foff_45_2, foff_45_3, fplaces_45, tsize_53, tbytes_53, tagg_53, zcells_53, telem_53, tint_53, tnotIface_53, ints, patO, mxK, Int.natCast_zero]
  rintro m a h ⟨k, L, rfl, hk, hL, hlo, hhi, a2, a7, a9, a10, a31, a32, rfl⟩
  simp (maxSteps := 4000000) +contextual only [↓packA0, ↓packA1, ↓packA2, ↓reduceIte, packB0, packB1, packB2, packB3, packB4, pureOp, quietOp, loadOp, quietB, fr0, cellsK, Option.getD_some, Option.getD_none, implies_true, ite_true, ite_false, eq_self, ne_eq, reduceCtorEq, Nat.reduceLT, Nat.reduceLeDiff, Nat.reduceAdd, Nat.reduceMul, Nat.reduceBEq, Nat.reduceEqDiff, Int.reduceToNat, Int.reduceLT, Int.reduceLE, Nat.reduceSub, pl33, tsize_3, tbytes_3, tagg_3, zcells_3, telem_3, tint_3, tnotIface_3, tsize_4, tbytes_4, tagg_4, zcells_4, telem_4, tbool_4, tnotIface_4, tsize_23, tbytes_23, tagg_23, zcells_23, telem_23, tnotIface_23, tsize_45, tbytes_45, tagg_45, zcells_45, telem_45, tnotIface_45, foff_45_0, foff_45_1, foff_45_2, foff_45_3, fplaces_45, tsize_53, tbytes_53, tagg_53, zcells_53, telem_53, tint_53, tnotIface_53, ints, patO, a2, a7, a9, a10, a31, a32]
  refine ⟨fun h2 => ?_, fun h2 => ?_⟩
  · have q4 := (may_row hg.1.1 (show k < (n : Int).toNat by omega)).2.2.2.1
    have hrl := row_len hg.1.1 (show k < n by omega)
    refine acalls_pure (neigh_c n n st cs hb hb2 hg.1.1 k (by omega) (by omega)) rfl ?_
    simp (maxSteps := 4000000) +contextual only [↓packA0, ↓packA1, ↓packA2, ↓reduceIte, packB0, packB1, packB2, packB3, packB4, pureOp, quietOp, loadOp, quietB, fr0, cellsK, Option.getD_some, Option.getD_none, implies_true, ite_true, ite_false, eq_self, ne_eq, reduceCtorEq, Nat.reduceLT, Nat.reduceLeDiff, Nat.reduceAdd, Nat.reduceMul, Nat.reduceBEq, Nat.reduceEqDiff, Int.reduceToNat, Int.reduceLT, Int.reduceLE, Nat.reduceSub, pl33, tsize_3, tbytes_3, tagg_3, zcells_3, telem_3, tint_3, tnotIface_3, tsize_4, tbytes_4, tagg_4, zcells_4, telem_4, tbool_4, tnotIface_4, tsize_23, tbytes_23, tagg_23, zcells_23, telem_23, tnotIface_23, tsize_45, tbytes_45, tagg_45, zcells_45, telem_45, tnotIface_45, foff_45_0, foff_45_1, foff_45_2, foff_45_3, fplaces_45, tsize_53, tbytes_53, tagg_53, zcells_53, telem_53, tint_53, tnotIface_53, ints, patO, a2, a7, a9, a10, a31, a32]
    refine LoopK.intro (fun m a h => ∃ (j : Nat) (L : List Int), m = (rowOf st cs k).length - j ∧ j ≤ (rowOf st cs k).length ∧ L.length = n ∧ (∀ u : Nat, u < k → L.getD u default = bk st cs P u) ∧ (∀ u : Nat, k < u → u < n → L.getD u default = 0) ∧ L.getD k default = (((rowOf st cs k).take j).filter (fun w => decide (P.getD w.toNat default < P.getD k default))).length ∧ a 2 = .op 0 4 0 0 ∧ a 7 = ints P ∧ a 9 = .int .i64 (mxK (bkL st cs P n) k) ∧ a 10 = .osl 1 1 0 n n true ∧ a 11 = .int .i64 k ∧ a 31 = .int .i64 n ∧ a 32 = .int .i64 k ∧ a 37 = ints (rowOf st cs k) ∧ a 38 = .int .i64 (rowOf st cs k).length ∧ a 39 = .int .i64 j ∧ h = [patO n n st cs, Ob.arr 1 (List.map intE L) true]) (rowOf st cs k).length ⟨0, L, rfl, Nat.zero_le _, hL, hlo, fun u h3 h4 => hhi u (by omega) h4, by rw [hhi k (Nat.le_refl _) (by omega)]; rfl, ?_⟩ ?_
    · simp (maxSteps := 4000000) only [↓packA0, ↓packA1, ↓packA2, ↓reduceIte, packB0, packB1, packB2, packB3, packB4, pureOp, quietOp, loadOp, quietB, fr0, cellsK, Option.getD_some, Option.getD_none, implies_true, ite_true, ite_false, eq_self, ne_eq, reduceCtorEq, Nat.reduceLT, Nat.reduceLeDiff, Nat.reduceAdd, Nat.reduceMul, Nat.reduceBEq, Nat.reduceEqDiff, Int.reduceToNat, Int.reduceLT, Int.reduceLE, Nat.reduceSub, pl33, tsize_3, tbytes_3, tagg_3, zcells_3, telem_3, tint_3, tnotIface_3, tsize_4, tbytes_4, tagg_4, zcells_4, telem_4, tbool_4, tnotIface_4, tsize_23, tbytes_23, tagg_23, zcells_23, telem_23, tnotIface_23, tsize_45, tbytes_45, tagg_45, zcells_45, telem_45, tnotIface_45, foff_45_0, foff_45_1, foff_45_2, foff_45_3, fplaces_45, tsize_53, tbytes_53, tagg_53, zcells_53, telem_53, tint_53, tnotIface_53, ints, patO, a2, a7, a9, a10, a31, a32, Int.natCast_zero]
    clear a2 a7 a9 a10 a31 a32
    rintro m a h ⟨j, L, rfl, hj, hL, hlo, hhi, hk3, a2, a7, a9, a10, a11, a31, a32, a37, a38, a39, rfl⟩
    simp (maxSteps := 4000000) +contextual only [↓packA0, ↓packA1, ↓packA2, ↓reduceIte, packB0, packB1, packB2, packB3, packB4, pureOp, quietOp, loadOp, quietB, fr0, cellsK, Option.getD_some, Option.getD_none, implies_true, ite_true, ite_false, eq_self, ne_eq, reduceCtorEq, Nat.reduceLT, Nat.reduceLeDiff, Nat.reduceAdd, Nat.reduceMul, Nat.reduceBEq, Nat.reduceEqDiff, Int.reduceToNat, Int.reduceLT, Int.reduceLE, Nat.reduceSub, pl33, tsize_3, tbytes_3, tagg_3, zcells_3, telem_3, tint_3, tnotIface_3, tsize_4, tbytes_4, tagg_4, zcells_4, telem_4, tbool_4, tnotIface_4, tsize_23, tbytes_23, tagg_23, zcells_23, telem_23, tnotIface_23, tsize_45, tbytes_45, tagg_45, zcells_45, telem_45, tnotIface_45, foff_45_0, foff_45_1, foff_45_2, foff_45_3, fplaces_45, tsize_53, tbytes_53, tagg_53, zcells_53, telem_53, tint_53, tnotIface_53, ints, patO, a2, a7, a9, a10, a11, a31, a32, a37, a38, a39, minK_2, imax_eq]
    refine ⟨fun h3 => ?_, fun h3 => ?_⟩
    · have hjl : j < (rowOf st cs k).length := by omega
      have h4 := row_nonneg q4 hjl
      have h5 := (q4 j hjl).2
      have hft := ftake (p := fun w : Int => decide (P.getD w.toNat default < P.getD k default)) hjl
      have hfl : (((rowOf st cs k).take j).filter (fun w : Int => decide (P.getD w.toNat default < P.getD k default))).length ≤ 128 := Nat.le_trans (List.length_filter_le _ _) (by simp; omega)
      refine ⟨by omega, by omega, by omega, by omega, by omega, by omega, fun h6 => ?_, fun h6 => ?_⟩
      · rw [if_pos (decide_eq_true h6)] at hft
        refine ⟨by omega, by omega, by omega, by omega, by omega, by omega, .inl ⟨(rowOf st cs k).length - (j + 1), by omega, j + 1, L.set k (L.getD k default + 1), rfl, by omega, by simp [hL], fun u hu => ?_, fun u hu1 hu2 => ?_, ?_, by omega, rfl⟩⟩
        · rw [getD_set_ne (by omega)]; exact hlo u hu
        · rw [getD_set_ne (by omega)]; exact hhi u hu1 hu2
        · rw [show (L.set k (L.getD k default + 1)).getD k default = L.getD k default + 1 by simp [List.getD_eq_getElem?_getD, List.getElem?_set_self (show k < L.length by omega)]]
          omega
      · rw [if_neg (by simpa using h6)] at hft
        exact ⟨by omega, .inl ⟨(rowOf st cs k).length - (j + 1), by omega, j + 1, L, rfl, by omega, hL, hlo, hhi, by omega, by omega, rfl⟩⟩
    · obtain rfl : j = (rowOf st cs k).length := by omega
      rw [List.take_length] at hk3
      have hbk : L.getD k default = bk st cs P k := hk3
      refine ⟨by omega, by omega, by omega, .inl ⟨n - (k + 1), by omega, k + 1, L, rfl, by omega, hL, fun u hu => ?_, fun u hu1 hu2 => hhi u (by omega) hu2, ?_, by omega, rfl⟩⟩
      · rcases Nat.lt_or_ge u k with h6 | h6
        · exact hlo u h6
        · rw [show u = k by omega]; exact hbk
      · simp only [mxK]
        rw [bkL_get (by omega), hbk]
  · obtain rfl : n = k := by omega
    have hLe : L = bkL st cs P n := list_ext_getD (by rw [hL, bkL_len]) fun u hu => by rw [hlo u (by omega), bkL_get (by omega)]
    subst hLe
    exact .three (.flat _ rfl) (ofz_ints (l := bkL st cs P n) rfl bkL_len.symm) (.flat _ rfl)
end Go.Proofs.Ytgdlkhgfehclpaa
